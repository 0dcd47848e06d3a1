/- How the reference reads a list, plain; it reads the lists that the program reads. -/
import Derived.Test.YtpehceccnjdfeaaF6
namespace Go.Proofs.Ytpehceccnjdfeaa

mutual
/-- The tree of the cell at the beginning of a list, by depths; what is behind it. -/
def grF : Nat → List Cl → Option (R × List Cl)
  | 0, _ => none
  | _ + 1, [] => none
  | f + 1, c :: t => match grK f c.d t [] with | none => none | some (ks, rest) => some (.mk c.k c.w c.h c.p ks, rest)
def grK : Nat → Int → List Cl → List R → Option (List R × List Cl)
  | 0, _, _, _ => none
  | _ + 1, _, [], ks => some (ks, [])
  | f + 1, d, e :: t, ks => if d < e.d then match grF f (e :: t) with | none => none | some (k, rest) => grK f d rest (ks ++ [k]) else some (ks, e :: t)
end
theorem grF_cons (f : Nat) (c : Cl) (t : List Cl) : grF (f + 1) (c :: t) = match grK f c.d t [] with | none => none | some (ks, rest) => some (.mk c.k c.w c.h c.p ks, rest) := by rw [grF]
theorem grK_nil (f : Nat) (d : Int) (ks : List R) : grK (f + 1) d [] ks = some (ks, []) := by rw [grK]
theorem grK_cons (f : Nat) (d : Int) (e : Cl) (t : List Cl) (ks : List R) : grK (f + 1) d (e :: t) ks = if d < e.d then match grF f (e :: t) with | none => none | some (k, rest) => grK f d rest (ks ++ [k]) else some (ks, e :: t) := by rw [grK]

/-- It comes to an end; how many cells it takes; where it stops. -/
theorem gr_tells (n : Nat) : (∀ (l : List Cl) (f : Nat), l.length ≤ n → 2 * l.length ≤ f → l ≠ [] → ∃ r rest, grF f l = some (r, rest) ∧ r.cnt + rest.length = l.length ∧ (∃ p, l = p ++ rest) ∧ (∀ e t, rest = e :: t → ∃ c t', l = c :: t' ∧ e.d ≤ c.d)) ∧
    (∀ (l : List Cl) (f : Nat) (d : Int) (ks : List R), l.length ≤ n → 2 * l.length + 1 ≤ f → ∃ ks' rest, grK f d l ks = some (ks', rest) ∧ cntL ks' + rest.length = cntL ks + l.length ∧ (∃ p, l = p ++ rest) ∧ (∀ e t, rest = e :: t → e.d ≤ d) ∧ ks.length ≤ ks'.length) := by
  induction n with
  | zero =>
    refine ⟨fun l f hl _ hne => ?_, fun l f d ks hl hf => ?_⟩
    · exact absurd (List.eq_nil_of_length_eq_zero (by omega)) hne
    · have : l = [] := List.eq_nil_of_length_eq_zero (by omega)
      subst this
      obtain ⟨f, rfl⟩ : ∃ g, f = g + 1 := ⟨f - 1, by omega⟩
      exact ⟨ks, [], grK_nil _ _ _, rfl, ⟨[], rfl⟩, by simp, Nat.le_refl _⟩
  | succ n ih =>
    have hF : ∀ (l : List Cl) (f : Nat), l.length ≤ n + 1 → 2 * l.length ≤ f → l ≠ [] → ∃ r rest, grF f l = some (r, rest) ∧ r.cnt + rest.length = l.length ∧ (∃ p, l = p ++ rest) ∧ (∀ e t, rest = e :: t → ∃ c t', l = c :: t' ∧ e.d ≤ c.d) := by
      intro l f hl hf hne
      cases l with
      | nil => exact absurd rfl hne
      | cons c t =>
        simp only [List.length_cons] at hl hf
        obtain ⟨f, rfl⟩ : ∃ g, f = g + 1 := ⟨f - 1, by omega⟩
        obtain ⟨ks, rest, h1, h2, ⟨p, h3⟩, h4, _⟩ := ih.2 t f c.d [] (by omega) (by omega)
        refine ⟨_, rest, by rw [grF_cons, h1], ?_, ⟨c :: p, by rw [h3]; rfl⟩, fun e t' he => ⟨c, t, rfl, h4 e t' he⟩⟩
        simp only [R.cnt, cntL, List.length_cons] at h2 ⊢; omega
    refine ⟨hF, fun l f d ks hl hf => ?_⟩
    obtain ⟨f, rfl⟩ : ∃ g, f = g + 1 := ⟨f - 1, by omega⟩
    cases l with
    | nil => exact ⟨ks, [], grK_nil _ _ _, rfl, ⟨[], rfl⟩, by simp, Nat.le_refl _⟩
    | cons e t =>
      rw [grK_cons]
      by_cases hd : d < e.d
      · rw [if_pos hd]
        obtain ⟨r, rest, h1, h2, ⟨p, h3⟩, _⟩ := hF (e :: t) f hl (by omega) (by simp)
        rw [h1]
        simp only []
        have hcp := cnt_pos r
        simp only [List.length_cons] at h2 hl hf ⊢
        obtain ⟨ks', rest', g1, g2, ⟨p', g3⟩, g4, g5⟩ := ih.2 rest f d (ks ++ [r]) (by omega) (by omega)
        refine ⟨ks', rest', g1, ?_, ⟨p ++ p', by rw [h3, g3, List.append_assoc]⟩, g4, ?_⟩
        · rw [cntL_append] at g2; simp only [cntL] at g2; omega
        · simp only [List.length_append, List.length_singleton] at g5; omega
      · rw [if_neg hd]
        exact ⟨ks, e :: t, rfl, rfl, ⟨[], rfl⟩, fun e' t' he => by cases he; omega, Nat.le_refl _⟩

mutual
theorem grF_lay : ∀ (r : R) (f : Nat) (d x y : Int) (rest : List Cl), 2 * r.cnt ≤ f → Stop d rest → grF f (r.lay d x y ++ rest) = some (r, rest)
  | .mk k w h i kids, f, d, x, y, rest, hf, hst => by
    simp only [R.cnt] at hf
    obtain ⟨f, rfl⟩ : ∃ g, f = g + 1 := ⟨f - 1, by omega⟩
    simp only [R.lay, List.cons_append]
    rw [grF_cons]
    simp only []
    rw [grK_lay kids f k d x y rest [] (by omega) hst]
    rfl
theorem grK_lay : ∀ (l : List R) (f : Nat) (k d x y : Int) (rest : List Cl) (ks : List R), 2 * cntL l + 1 ≤ f → Stop d rest → grK f d (layL k (d + 1) x y l ++ rest) ks = some (ks ++ l, rest)
  | [], f, k, d, x, y, rest, ks, hf, hst => by
    obtain ⟨f, rfl⟩ : ∃ g, f = g + 1 := ⟨f - 1, by omega⟩
    simp only [layL, List.nil_append]
    cases rest with
    | nil => rw [grK_nil]; simp
    | cons e t =>
      have := hst e t rfl
      rw [grK_cons, if_neg (by omega)]; simp
  | r :: rs, f, k, d, x, y, rest, ks, hf, hst => by
    have hc := cnt_pos r
    simp only [cntL] at hf
    obtain ⟨f, rfl⟩ : ∃ g, f = g + 1 := ⟨f - 1, by omega⟩
    obtain ⟨t, ht⟩ := lay_head r (d + 1) x y
    have hst2 : Stop (d + 1) (layL k (d + 1) (if k = 2 then x + r.w + 1 else x) (if k = 2 then y else y + r.h + 1) rs ++ rest) := by
      intro e t' he
      cases rs with
      | nil => simp only [layL, List.nil_append] at he; have := hst e t' he; omega
      | cons q qs =>
        obtain ⟨t2, ht2⟩ := lay_head q (d + 1) (if k = 2 then x + r.w + 1 else x) (if k = 2 then y else y + r.h + 1)
        simp only [layL, ht2, List.cons_append, List.cons.injEq] at he
        rw [← he.1]; simp
    have ih := grF_lay r f (d + 1) x y _ (by omega) hst2
    simp only [layL, List.append_assoc]
    rw [ht, List.cons_append] at ih ⊢
    rw [grK_cons]
    simp only []
    rw [if_pos (by omega), ih]
    simp only []
    rw [grK_lay rs f k d _ _ rest (ks ++ [r]) (by omega) hst]
    simp
end

/-- Each cell behind the first is at most one deeper than the one ahead of it, and none is at the first's depth. -/
def stepsOk : List Cl → Prop
  | a :: b :: t => (1 ≤ b.d ∧ b.d ≤ a.d + 1) ∧ stepsOk (b :: t)
  | _ => True

theorem stepsOk_iff : ∀ (l : List Cl), stepsOk l ↔ ∀ i a b, l[i]? = some a → l[i + 1]? = some b → 1 ≤ b.d ∧ b.d ≤ a.d + 1
  | [] => by simp [stepsOk]
  | [_] => by simp [stepsOk]
  | a :: b :: t => by
    simp only [stepsOk, stepsOk_iff (b :: t)]
    constructor
    · rintro ⟨h1, h2⟩ i x y hx hy
      cases i with
      | zero => simp only [List.getElem?_cons_zero, List.getElem?_cons_succ, Option.some.injEq] at hx hy; subst hx hy; exact h1
      | succ i => rw [List.getElem?_cons_succ] at hx hy; exact h2 i x y hx hy
    · intro h
      exact ⟨h 0 a b rfl rfl, fun i x y hx hy => h (i + 1) x y (by rw [List.getElem?_cons_succ]; exact hx) (by rw [List.getElem?_cons_succ]; exact hy)⟩

/-- The steps of a tree's list. -/
def stepsFrom (a : Cl) : List Cl → Prop
  | [] => True
  | b :: t => (1 ≤ b.d ∧ b.d ≤ a.d + 1) ∧ stepsOk (b :: t)
theorem steps_cons (a : Cl) (t : List Cl) : stepsOk (a :: t) ↔ stepsFrom a t := by cases t <;> simp [stepsOk, stepsFrom]

mutual
theorem lay_steps : ∀ (r : R) (d x y : Int) (rest : List Cl), 0 ≤ d → (∀ e t, rest = e :: t → 1 ≤ e.d ∧ e.d ≤ d + 1 ∧ stepsOk rest) → stepsOk (r.lay d x y ++ rest)
  | .mk k w h i kids, d, x, y, rest, hd, hr => by
    simp only [R.lay, List.cons_append]
    rw [steps_cons]
    exact layL_steps kids k (d + 1) x y rest _ (by omega) (by simp only []; omega) (fun e t he => ⟨(hr e t he).1, by have := (hr e t he).2.1; omega, (hr e t he).2.2⟩) (by simp only []; omega)
theorem layL_steps : ∀ (l : List R) (k d x y : Int) (rest : List Cl) (a : Cl), 1 ≤ d → d ≤ a.d + 1 → (∀ e t, rest = e :: t → 1 ≤ e.d ∧ e.d ≤ d ∧ stepsOk rest) → a.d + 1 ≤ d + 1 → stepsFrom a (layL k d x y l ++ rest)
  | [], k, d, x, y, rest, a, hd, ha, hr, _ => by
    simp only [layL, List.nil_append]
    cases rest with
    | nil => trivial
    | cons e t => obtain ⟨h1, h2, h3⟩ := hr e t rfl; exact ⟨⟨h1, by omega⟩, h3⟩
  | r :: rs, k, d, x, y, rest, a, hd, ha, hr, _ => by
    obtain ⟨t, ht⟩ := lay_head r d x y
    have key := lay_steps r d x y (layL k d (if k = 2 then x + r.w + 1 else x) (if k = 2 then y else y + r.h + 1) rs ++ rest) (by omega) (by
      intro e t' he
      cases rs with
      | nil =>
        simp only [layL, List.nil_append] at he ⊢
        obtain ⟨h1, h2, h3⟩ := hr e t' he
        exact ⟨h1, by omega, h3⟩
      | cons q qs =>
        obtain ⟨t2, ht2⟩ := lay_head q d (if k = 2 then x + r.w + 1 else x) (if k = 2 then y else y + r.h + 1)
        have h0 := he
        simp only [layL, ht2, List.cons_append, List.cons.injEq] at h0
        have h9 : e.d = d := by rw [← h0.1]
        refine ⟨by omega, by omega, ?_⟩
        have hf := layL_steps (q :: qs) k d (if k = 2 then x + r.w + 1 else x) (if k = 2 then y else y + r.h + 1) rest ⟨d, 0, 0, 0, 0, 0, 0⟩ hd (by simp only []; omega) hr (by simp)
        rw [he] at hf ⊢
        exact hf.2)
    simp only [layL, List.append_assoc]
    rw [ht, List.cons_append] at key ⊢
    exact ⟨⟨by simp only []; omega, by simpa using ha⟩, key⟩
end

/-- What the reference asks of a list ahead of growing. -/
def headOk (l : List Cl) : Prop := l ≠ [] ∧ l.length ≤ 64 ∧ ∃ c t, l = c :: t ∧ c.d = 0 ∧ c.w ≤ 1000 ∧ c.h ≤ 1000

open Classical in
/-- How the reference reads a list. -/
noncomputable def treeF (l : List Cl) : Option R :=
  if headOk l ∧ stepsOk l then
    match grF (2 * l.length) l with
    | none => none
    | some (r, _) => if r.sz ∧ r.ids.Nodup ∧ r.ids.length ≤ 32 ∧ r.lay 0 0 0 = l then some r else none
  else none

theorem steps_pos : ∀ (l : List Cl), stepsOk l → ∀ i b, l[i + 1]? = some b → 1 ≤ b.d := by
  intro l h i b hb
  have hi := (List.getElem?_eq_some_iff.1 hb).1
  exact ((stepsOk_iff l).1 h i (l[i]'(by omega)) b (by simp) hb).1

/-- What growing takes of a whole list. -/
theorem gr_whole {l : List Cl} (h1 : headOk l) (h2 : stepsOk l) : ∃ r, grF (2 * l.length) l = some (r, []) ∧ r.cnt = l.length ∧ r.w ≤ 1000 ∧ r.h ≤ 1000 := by
  obtain ⟨hne, _, c, t, rfl, hd, hw, hh⟩ := h1
  obtain ⟨r, rest, g1, g2, ⟨p, g3⟩, g4⟩ := (gr_tells _).1 (c :: t) (2 * (c :: t).length) (Nat.le_refl _) (Nat.le_refl _) hne
  have hr : rest = [] := by
    cases rest with
    | nil => rfl
    | cons e t' =>
      exfalso
      obtain ⟨c', t'', e1, e2⟩ := g4 e t' rfl
      simp only [List.cons.injEq] at e1
      obtain ⟨rfl, rfl⟩ := e1
      have hcp := cnt_pos r
      simp only [List.length_cons] at g2
      cases p with
      | nil => simp at g3; rw [g3.2] at g2; omega
      | cons q qs =>
        simp only [List.cons_append, List.cons.injEq] at g3
        have := steps_pos _ h2 qs.length e (by rw [List.getElem?_cons_succ, g3.2, List.getElem?_append_right (Nat.le_refl _)]; simp)
        omega
  subst hr
  refine ⟨r, g1, by simpa using g2, ?_⟩
  simp only [List.length_cons] at g1
  rw [show 2 * (t.length + 1) = (2 * t.length + 1) + 1 by omega, grF_cons] at g1
  split at g1
  · cases g1
  · simp only [Option.some.injEq, Prod.mk.injEq] at g1
    obtain ⟨rfl, _⟩ := g1
    exact ⟨hw, hh⟩

theorem treeF_iff (l : List Cl) (r : R) : treeF l = some r ↔ r.lay 0 0 0 = l ∧ r.isLay := by
  classical
  unfold treeF
  constructor
  · intro h
    split at h
    · rename_i h0
      obtain ⟨r', g1, g2, g3, g4⟩ := gr_whole h0.1 h0.2
      rw [g1] at h
      simp only [] at h
      split at h
      · rename_i h1
        cases h
        exact ⟨h1.2.2.2, (sz_ok r).1 ⟨h1.1, g3, g4⟩, h1.2.1, h1.2.2.1⟩
      · cases h
    · cases h
  · rintro ⟨rfl, hok, hnd, h32⟩
    have hc := cnt_ids r hok
    have hlen := R.lay_length r 0 0 0
    have hsz := (sz_ok r).2 hok
    have h1 : headOk (r.lay 0 0 0) := by
      obtain ⟨t, ht⟩ := lay_head r 0 0 0
      refine ⟨by rw [ht]; simp, by omega, _, t, ht, rfl, hsz.2.1, hsz.2.2⟩
    have h2 : stepsOk (r.lay 0 0 0) := by
      have := lay_steps r 0 0 0 [] (by omega) (by intro e t he; cases he)
      rwa [List.append_nil] at this
    rw [if_pos ⟨h1, h2⟩]
    have hg := grF_lay r (2 * r.cnt) 0 0 0 [] (Nat.le_refl _) (by intro e t he; cases he)
    rw [List.append_nil] at hg
    rw [hlen, hg]
    simp only []
    rw [if_pos ⟨hsz.1, hnd, h32, trivial⟩]

theorem tree_read (l : List Cl) : treeF l = readF l := by
  cases h : readF l with
  | none =>
    cases h' : treeF l with
    | none => rfl
    | some r => rw [(readF_iff l r).2 ((treeF_iff l r).1 h')] at h; cases h
  | some r => exact (treeF_iff l r).2 ((readF_iff l r).1 h)

end Go.Proofs.Ytpehceccnjdfeaa
