/- How the program reads a list: plain. -/
import Derived.Test.YtpehceccnjdfeaaA0
namespace Go.Proofs.Ytpehceccnjdfeaa

mutual
/-- The cell at the beginning of a list, and what is below it; what is left. -/
def growF : Nat → List Cl → Int → Option (R × List Cl)
  | 0, _, _ => none
  | _ + 1, [], _ => none
  | f + 1, c :: l, d =>
    if c.k = 1 then some (.mk 1 c.w c.h c.p [], l)
    else match growK f c d l [] (-1) with
      | none => none
      | some (ks, sum, l') => if ks.length < 2 then none else if sum = ext c.k c.w c.h then some (.mk c.k c.w c.h 0 ks, l') else none
/-- The children. -/
def growK : Nat → Cl → Int → List Cl → List R → Int → Option (List R × Int × List Cl)
  | 0, _, _, _, _, _ => none
  | _ + 1, _, _, [], ks, sum => some (ks, sum, [])
  | f + 1, c, d, e :: l, ks, sum =>
    if e.d = d + 1 then
      if e.k = c.k then none
      else match growF f (e :: l) (d + 1) with
        | none => none
        | some (r, l') => if r.ext (5 - c.k) = ext (5 - c.k) c.w c.h then growK f c d l' (ks ++ [r]) (sum + (r.ext c.k + 1)) else none
    else some (ks, sum, e :: l)
end

theorem growF_cons (f : Nat) (c : Cl) (l : List Cl) (d : Int) : growF (f + 1) (c :: l) d =
    if c.k = 1 then some (.mk 1 c.w c.h c.p [], l)
    else match growK f c d l [] (-1) with
      | none => none
      | some (ks, sum, l') => if ks.length < 2 then none else if sum = ext c.k c.w c.h then some (.mk c.k c.w c.h 0 ks, l') else none := by rw [growF]
theorem growK_nil (f : Nat) (c : Cl) (d : Int) (ks : List R) (sum : Int) : growK (f + 1) c d [] ks sum = some (ks, sum, []) := by rw [growK]
theorem growK_cons (f : Nat) (c : Cl) (d : Int) (e : Cl) (l : List Cl) (ks : List R) (sum : Int) : growK (f + 1) c d (e :: l) ks sum =
    if e.d = d + 1 then
      if e.k = c.k then none
      else match growF f (e :: l) (d + 1) with
        | none => none
        | some (r, l') => if r.ext (5 - c.k) = ext (5 - c.k) c.w c.h then growK f c d l' (ks ++ [r]) (sum + (r.ext c.k + 1)) else none
    else some (ks, sum, e :: l) := by rw [growK]

/-- What is left is a part of the list, and shorter; the cell's extents and kind are those of the list's head. -/
theorem grow_tells (f : Nat) : (∀ (l : List Cl) (d : Int) (r : R) (l' : List Cl), growF f l d = some (r, l') → ∃ c t, l = c :: t ∧ r.w = c.w ∧ r.h = c.h ∧ r.kind = c.k ∧ l'.length ≤ t.length ∧ ∃ p, l = p ++ l') ∧
    (∀ (c : Cl) (d : Int) (l : List Cl) (ks : List R) (sum : Int) (ks' : List R) (sum' : Int) (l' : List Cl), growK f c d l ks sum = some (ks', sum', l') → l'.length ≤ l.length ∧ ∃ p, l = p ++ l') := by
  induction f with
  | zero => exact ⟨fun l d r l' h => by simp [growF] at h, fun c d l ks sum ks' sum' l' h => by simp [growK] at h⟩
  | succ f ih =>
    refine ⟨fun l d r l' h => ?_, fun c d l ks sum ks' sum' l' h => ?_⟩
    · cases l with
      | nil => simp [growF] at h
      | cons c t =>
        rw [growF_cons] at h
        split at h
        · rename_i hk
          simp only [Option.some.injEq, Prod.mk.injEq] at h
          obtain ⟨rfl, rfl⟩ := h
          exact ⟨c, t, rfl, rfl, rfl, hk.symm, Nat.le_refl _, [c], rfl⟩
        · split at h
          · cases h
          · rename_i ks sum l2 hK
            obtain ⟨h1, p, h2⟩ := ih.2 _ _ _ _ _ _ _ _ hK
            split at h
            · cases h
            · split at h
              · simp only [Option.some.injEq, Prod.mk.injEq] at h
                obtain ⟨rfl, rfl⟩ := h
                exact ⟨c, t, rfl, rfl, rfl, rfl, h1, c :: p, by simp [h2]⟩
              · cases h
    · cases l with
      | nil =>
        rw [growK_nil] at h
        simp only [Option.some.injEq, Prod.mk.injEq] at h
        obtain ⟨rfl, rfl, rfl⟩ := h
        exact ⟨Nat.le_refl _, [], rfl⟩
      | cons e t =>
        rw [growK_cons] at h
        split at h
        · split at h
          · cases h
          · split at h
            · cases h
            · rename_i r l2 hF
              split at h
              · obtain ⟨c', t', he, _, _, _, h1, p, h2⟩ := ih.1 _ _ _ _ hF
                obtain ⟨h3, q, h4⟩ := ih.2 _ _ _ _ _ _ _ _ h
                simp only [List.cons.injEq] at he
                obtain ⟨rfl, rfl⟩ := he
                refine ⟨by simp only [List.length_cons]; omega, p ++ q, by rw [h2, h4, List.append_assoc]⟩
              · cases h
        · simp only [Option.some.injEq, Prod.mk.injEq] at h
          obtain ⟨rfl, rfl, rfl⟩ := h
          exact ⟨Nat.le_refl _, [], rfl⟩

/-- What read asks of each cell ahead of growing. -/
def CellOk (c : Cl) : Prop := 1 ≤ c.w ∧ c.w ≤ 1000 ∧ 1 ≤ c.h ∧ c.h ≤ 1000 ∧ (c.k = 1 ∨ c.k = 2 ∨ c.k = 3)

/-- read's look at each cell; the ids so far. -/
def scan : List Cl → List Int → Option (List Int)
  | [], s => some s
  | c :: l, s =>
    if sideB c.w && sideB c.h then
      if c.k = 1 then if idB c.p && !s.contains c.p then scan l (s ++ [c.p]) else none
      else if c.p = 0 ∧ kindB c.k = true then scan l s else none
    else none

/-- How the program reads a list. -/
def readF (l : List Cl) : Option R :=
  match l with
  | [] => none
  | c :: _ =>
    if l.length ≤ 64 ∧ sideB c.w = true ∧ sideB c.h = true then
      match scan l [] with
      | none => none
      | some ids =>
        if ids.length ≤ 32 then
          match growF (2 * l.length + 1) l 0 with
          | none => none
          | some (r, l') => if l' = [] ∧ r.lay 0 0 0 = l then some r else none
        else none
    else none

theorem scan_ok (l : List Cl) : ∀ (s t : List Int), scan l s = some t → ∀ c ∈ l, CellOk c := by
  induction l with
  | nil => intro s t _ c hc; cases hc
  | cons a l ih =>
    intro s t h c hc
    rw [scan] at h
    split at h
    · rename_i hs
      simp only [Bool.and_eq_true, sideB_iff] at hs
      have key : CellOk a ∧ ∃ s', scan l s' = some t := by
        split at h
        · rename_i hk
          split at h
          · exact ⟨⟨hs.1.1, hs.1.2, hs.2.1, hs.2.2, .inl hk⟩, _, h⟩
          · cases h
        · split at h
          · rename_i hk
            have := (kindB_iff a.k).1 hk.2
            exact ⟨⟨hs.1.1, hs.1.2, hs.2.1, hs.2.2, .inr this⟩, _, h⟩
          · cases h
      rcases List.mem_cons.1 hc with rfl | hc
      · exact key.1
      · obtain ⟨s', h'⟩ := key.2
        exact ih s' t h' c hc
    · cases h

mutual
theorem R.Bd.mono {lo hi lo' hi' : Int} (h1 : lo' ≤ lo) (h2 : hi ≤ hi') : ∀ {r : R}, r.Bd lo hi → r.Bd lo' hi'
  | .mk _ _ _ _ kids, h => by
    simp only [R.Bd] at h ⊢
    exact ⟨by omega, by omega, by omega, by omega, BdL_mono h1 h2 h.2.2.2.2⟩
theorem BdL_mono {lo hi lo' hi' : Int} (h1 : lo' ≤ lo) (h2 : hi ≤ hi') : ∀ {l : List R}, BdL lo hi l → BdL lo' hi' l
  | [], _ => trivial
  | _ :: _, h => ⟨R.Bd.mono h1 h2 h.1, BdL_mono h1 h2 h.2⟩
end

/-- How many cells growing takes; their extents. -/
theorem grow_cnt (f : Nat) : (∀ (l : List Cl) (d : Int) (r : R) (l' : List Cl), growF f l d = some (r, l') → (∀ c ∈ l, CellOk c) → r.cnt + l'.length = l.length ∧ r.Bd 1 1000) ∧
    (∀ (c : Cl) (d : Int) (l : List Cl) (ks : List R) (sum : Int) (ks' : List R) (sum' : Int) (l' : List Cl), growK f c d l ks sum = some (ks', sum', l') → (∀ c ∈ l, CellOk c) → BdL 1 1000 ks → cntL ks' + l'.length = cntL ks + l.length ∧ BdL 1 1000 ks') := by
  induction f with
  | zero => exact ⟨fun l d r l' h => by simp [growF] at h, fun c d l ks sum ks' sum' l' h => by simp [growK] at h⟩
  | succ f ih =>
    refine ⟨fun l d r l' h hf => ?_, fun c d l ks sum ks' sum' l' h hf hb => ?_⟩
    · cases l with
      | nil => simp [growF] at h
      | cons c t =>
        obtain ⟨c1, c2, c3, c4, c5⟩ := hf c (by simp)
        rw [growF_cons] at h
        split at h
        · simp only [Option.some.injEq, Prod.mk.injEq] at h
          obtain ⟨rfl, rfl⟩ := h
          simp only [R.cnt, cntL, List.length_cons, R.Bd, BdL]
          exact ⟨by omega, c1, c2, c3, c4, trivial⟩
        · split at h
          · cases h
          · rename_i ks sum l2 hK
            obtain ⟨e1, e2⟩ := ih.2 _ _ _ _ _ _ _ _ hK (fun e he => hf e (by simp [he])) trivial
            simp only [cntL] at e1
            split at h
            · cases h
            · split at h
              · simp only [Option.some.injEq, Prod.mk.injEq] at h
                obtain ⟨rfl, rfl⟩ := h
                simp only [R.cnt, List.length_cons, R.Bd]
                exact ⟨by omega, c1, c2, c3, c4, e2⟩
              · cases h
    · cases l with
      | nil =>
        rw [growK_nil] at h
        simp only [Option.some.injEq, Prod.mk.injEq] at h
        obtain ⟨rfl, rfl, rfl⟩ := h
        exact ⟨rfl, hb⟩
      | cons e t =>
        rw [growK_cons] at h
        split at h
        · split at h
          · cases h
          · split at h
            · cases h
            · rename_i r l2 hF
              obtain ⟨c', t', he', _, _, hrk, _, p, hp⟩ := (grow_tells f).1 _ _ _ _ hF
              split at h
              · obtain ⟨r1, r2⟩ := ih.1 _ _ _ _ hF hf
                obtain ⟨e1, e2⟩ := ih.2 _ _ _ _ _ _ _ _ h (fun a ha => hf a (by rw [hp]; simp [ha])) ((BdL_append _ _).2 ⟨hb, r2, trivial⟩)
                rw [cntL_append] at e1
                simp only [cntL] at e1
                exact ⟨by omega, e2⟩
              · cases h
        · simp only [Option.some.injEq, Prod.mk.injEq] at h
          obtain ⟨rfl, rfl, rfl⟩ := h
          exact ⟨rfl, hb⟩

end Go.Proofs.Ytpehceccnjdfeaa
