/- What a layout's tree is; which lists the program reads as one. Plain. -/
import Derived.Test.YtpehceccnjdfeaaA4
namespace Go.Proofs.Ytpehceccnjdfeaa

/-- What children and borders take. -/
def spanL (k : Int) : List R → Int
  | [] => 0
  | r :: rs => r.ext k + 1 + spanL k rs
theorem spanL_app (k : Int) (l m : List R) : spanL k (l ++ m) = spanL k l + spanL k m := by
  induction l with
  | nil => simp [spanL]
  | cons a l ih => simp only [List.cons_append, spanL, ih]; omega

mutual
/-- May a layout have this tree? -/
def R.ok : R → Prop
  | .mk k w h i kids => (1 ≤ w ∧ w ≤ 1000 ∧ 1 ≤ h ∧ h ≤ 1000) ∧
    ((k = 1 ∧ kids = [] ∧ 1 ≤ i ∧ i ≤ 4611686018427387904) ∨ ((k = 2 ∨ k = 3) ∧ i = 0 ∧ 2 ≤ kids.length ∧ okL k w h kids ∧ spanL k kids = ext k w h + 1))
def okL (k w h : Int) : List R → Prop
  | [] => True
  | r :: rs => (r.kind ≠ k ∧ r.ext (5 - k) = ext (5 - k) w h ∧ r.ok) ∧ okL k w h rs
end
theorem okL_app {k w h : Int} (l m : List R) : okL k w h (l ++ m) ↔ okL k w h l ∧ okL k w h m := by
  induction l with
  | nil => simp [okL]
  | cons a l ih => simp [okL, ih, and_assoc]
theorem okL_mem {k w h : Int} {r : R} {l : List R} (hl : okL k w h l) (m : r ∈ l) : r.kind ≠ k ∧ r.ext (5 - k) = ext (5 - k) w h ∧ r.ok := by
  induction l with
  | nil => cases m
  | cons a l ih =>
    obtain ⟨h1, h2⟩ := hl
    rcases List.mem_cons.1 m with rfl | m
    · exact h1
    · exact ih h2 m
theorem okL_iff {k w h : Int} {l : List R} : okL k w h l ↔ ∀ r ∈ l, r.kind ≠ k ∧ r.ext (5 - k) = ext (5 - k) w h ∧ r.ok := by
  refine ⟨fun hl r m => okL_mem hl m, fun hl => ?_⟩
  induction l with
  | nil => trivial
  | cons a l ih => exact ⟨hl a (by simp), ih fun r m => hl r (by simp [m])⟩

/-- Is it the tree of a layout? -/
def R.isLay (r : R) : Prop := r.ok ∧ r.ids.Nodup ∧ r.ids.length ≤ 32

/-- The panes of a list. -/
def pids (l : List Cl) : List Int := (l.filter fun c => c.k = 1).map Cl.p
theorem pids_app (l m : List Cl) : pids (l ++ m) = pids l ++ pids m := by simp [pids]
theorem pids_cons (c : Cl) (l : List Cl) : pids (c :: l) = if c.k = 1 then c.p :: pids l else pids l := by
  by_cases h : c.k = 1 <;> simp [pids, h]

/-- What read asks of each cell. -/
def CellFine (c : Cl) : Prop := 1 ≤ c.w ∧ c.w ≤ 1000 ∧ 1 ≤ c.h ∧ c.h ≤ 1000 ∧ ((c.k = 1 ∧ 1 ≤ c.p ∧ c.p ≤ 4611686018427387904) ∨ ((c.k = 2 ∨ c.k = 3) ∧ c.p = 0))

theorem scan_tells : ∀ (l : List Cl) (s t : List Int), scan l s = some t → s.Nodup → t = s ++ pids l ∧ t.Nodup ∧ ∀ c ∈ l, CellFine c
  | [], s, t, h, hn => by
    simp only [scan, Option.some.injEq] at h
    subst h
    exact ⟨by simp [pids], hn, by simp⟩
  | c :: l, s, t, h, hn => by
    rw [scan] at h
    split at h
    · rename_i hs
      simp only [Bool.and_eq_true, sideB_iff] at hs
      split at h
      · rename_i hk
        split at h
        · rename_i hp
          simp only [Bool.and_eq_true, idB_iff, Bool.not_eq_true', List.contains_eq_mem, decide_eq_false_iff_not] at hp
          obtain ⟨h1, h2, h3⟩ := scan_tells l _ t h (by
            rw [List.nodup_append]
            refine ⟨hn, by simp, ?_⟩
            rintro a ha b hb rfl
            simp only [List.mem_singleton] at hb
            exact hp.2 (hb ▸ ha))
          refine ⟨by rw [h1, pids_cons, if_pos hk, List.append_assoc]; rfl, h2, ?_⟩
          intro e he
          rcases List.mem_cons.1 he with rfl | he
          · exact ⟨hs.1.1, hs.1.2, hs.2.1, hs.2.2, .inl ⟨hk, hp.1⟩⟩
          · exact h3 e he
        · cases h
      · rename_i hk
        split at h
        · rename_i hp
          obtain ⟨h1, h2, h3⟩ := scan_tells l _ t h hn
          refine ⟨by rw [h1, pids_cons, if_neg hk], h2, ?_⟩
          intro e he
          rcases List.mem_cons.1 he with rfl | he
          · exact ⟨hs.1.1, hs.1.2, hs.2.1, hs.2.2, .inr ⟨(kindB_iff _).1 hp.2, hp.1⟩⟩
          · exact h3 e he
        · cases h
    · cases h

theorem scan_all : ∀ (l : List Cl) (s : List Int), (∀ c ∈ l, CellFine c) → (s ++ pids l).Nodup → scan l s = some (s ++ pids l)
  | [], s, _, _ => by simp [scan, pids]
  | c :: l, s, hf, hn => by
    obtain ⟨h1, h2, h3, h4, h5⟩ := hf c (by simp)
    have hs : (sideB c.w && sideB c.h) = true := by simp only [Bool.and_eq_true, sideB_iff]; omega
    rw [scan, if_pos hs]
    rcases h5 with ⟨hk, hp⟩ | ⟨hk, hp⟩
    · rw [pids_cons, if_pos hk] at hn
      rw [pids_cons, if_pos hk, if_pos hk]
      have hc : (idB c.p && !s.contains c.p) = true := by
        simp only [Bool.and_eq_true, idB_iff, Bool.not_eq_true', List.contains_eq_mem, decide_eq_false_iff_not]
        refine ⟨hp, fun hm => ?_⟩
        exact (List.nodup_append.1 hn).2.2 _ hm _ (by simp) rfl
      rw [if_pos hc, scan_all l (s ++ [c.p]) (fun e he => hf e (by simp [he])) (by simpa using hn)]
      simp
    · have h1 : ¬ c.k = 1 := by omega
      rw [pids_cons, if_neg h1] at hn
      rw [pids_cons, if_neg h1, if_neg h1, if_pos ⟨hp, (kindB_iff _).2 hk⟩, scan_all l s (fun e he => hf e (by simp [he])) hn]

mutual
theorem lay_fine : ∀ (r : R) (d x y : Int), r.ok → (∀ c ∈ r.lay d x y, CellFine c) ∧ pids (r.lay d x y) = r.ids
  | .mk k w h i kids, d, x, y, hok => by
    simp only [R.ok] at hok
    obtain ⟨⟨h1, h2, h3, h4⟩, h5⟩ := hok
    rcases h5 with ⟨rfl, rfl, h5⟩ | ⟨hk, rfl, h6, h7, h8⟩
    · simp only [R.lay, layL, R.ids]
      refine ⟨?_, by simp [pids]⟩
      intro c hc
      simp only [List.mem_singleton] at hc
      subst hc
      exact ⟨h1, h2, h3, h4, .inl ⟨rfl, h5⟩⟩
    · obtain ⟨e1, e2⟩ := layL_fine kids k (d + 1) x y (fun r hr => (okL_mem h7 hr).2.2)
      simp only [R.lay, R.ids]
      rw [if_neg (by omega), pids_cons, if_neg (by simp only []; omega), e2]
      refine ⟨?_, rfl⟩
      intro c hc
      rcases List.mem_cons.1 hc with rfl | hc
      · exact ⟨h1, h2, h3, h4, .inr ⟨hk, rfl⟩⟩
      · exact e1 c hc
theorem layL_fine : ∀ (l : List R) (k d x y : Int), (∀ r ∈ l, r.ok) → (∀ c ∈ layL k d x y l, CellFine c) ∧ pids (layL k d x y l) = idsL l
  | [], _, _, _, _, _ => by simp [layL, pids, idsL]
  | r :: rs, k, d, x, y, hl => by
    obtain ⟨a1, a2⟩ := lay_fine r d x y (hl r (by simp))
    obtain ⟨b1, b2⟩ := layL_fine rs k d (if k = 2 then x + r.w + 1 else x) (if k = 2 then y else y + r.h + 1) (fun q hq => hl q (by simp [hq]))
    simp only [layL, idsL, pids_app, a2, b2]
    refine ⟨?_, trivial⟩
    intro c hc
    rcases List.mem_append.1 hc with hc | hc
    · exact a1 c hc
    · exact b1 c hc
end

mutual
theorem cnt_ids : ∀ (r : R), r.ok → r.cnt + 1 ≤ 2 * r.ids.length
  | .mk k w h i kids, hok => by
    simp only [R.ok] at hok
    obtain ⟨_, h5⟩ := hok
    rcases h5 with ⟨rfl, rfl, _⟩ | ⟨hk, rfl, h6, h7, h8⟩
    · simp [R.cnt, cntL, R.ids]
    · have := cntL_ids kids (fun r hr => (okL_mem h7 hr).2.2)
      simp only [R.cnt, R.ids]
      rw [if_neg (by omega)]
      omega
theorem cntL_ids : ∀ (l : List R), (∀ r ∈ l, r.ok) → cntL l + l.length ≤ 2 * (idsL l).length
  | [], _ => by simp [cntL, idsL]
  | r :: rs, hl => by
    have h1 := cnt_ids r (hl r (by simp))
    have h2 := cntL_ids rs (fun q hq => hl q (by simp [hq]))
    simp only [cntL, List.length_cons, idsL, List.length_append]
    omega
end

/-- No deeper cell follows. -/
def Stop (d : Int) (l : List Cl) : Prop := ∀ e t, l = e :: t → e.d ≤ d

theorem lay_head (r : R) (d x y : Int) : ∃ t, r.lay d x y = ⟨d, r.kind, x, y, r.w, r.h, r.id⟩ :: t := by cases r; exact ⟨_, rfl⟩

mutual
theorem growF_lay : ∀ (r : R) (f : Nat) (d x y : Int) (rest : List Cl), r.ok → 2 * r.cnt ≤ f → Stop d rest → growF f (r.lay d x y ++ rest) d = some (r, rest)
  | .mk k w h i kids, f, d, x, y, rest, hok, hf, hst => by
    simp only [R.ok] at hok
    obtain ⟨_, h5⟩ := hok
    simp only [R.cnt] at hf
    obtain ⟨f, rfl⟩ : ∃ g, f = g + 1 := ⟨f - 1, by omega⟩
    simp only [R.lay, List.cons_append]
    rw [growF_cons]
    rcases h5 with ⟨rfl, rfl, _⟩ | ⟨hk, rfl, h6, h7, h8⟩
    · simp [layL]
    · simp only []
      rw [if_neg (by omega), growK_lay kids f k w h ⟨d, k, x, y, w, h, 0⟩ d x y rest [] (-1) h7 (by omega) hst rfl rfl rfl]
      simp only [List.nil_append]
      rw [if_neg (by omega), if_pos (by omega)]
theorem growK_lay : ∀ (l : List R) (f : Nat) (k w h : Int) (c : Cl) (d x y : Int) (rest : List Cl) (ks : List R) (sum : Int), okL k w h l → 2 * cntL l + 1 ≤ f → Stop d rest → c.k = k → c.w = w → c.h = h →
    growK f c d (layL k (d + 1) x y l ++ rest) ks sum = some (ks ++ l, sum + spanL k l, rest)
  | [], f, k, w, h, c, d, x, y, rest, ks, sum, _, hf, hst, _, _, _ => by
    obtain ⟨f, rfl⟩ : ∃ g, f = g + 1 := ⟨f - 1, by omega⟩
    simp only [layL, List.nil_append, spanL]
    cases rest with
    | nil => rw [growK_nil]; simp
    | cons e t =>
      have := hst e t rfl
      rw [growK_cons, if_neg (by omega)]; simp
  | r :: rs, f, k, w, h, c, d, x, y, rest, ks, sum, hl, hf, hst, hk, hw, hh => by
    obtain ⟨⟨a1, a2, a3⟩, hl2⟩ := hl
    have hc := cnt_pos r
    simp only [cntL] at hf
    obtain ⟨f, rfl⟩ : ∃ g, f = g + 1 := ⟨f - 1, by omega⟩
    obtain ⟨t, ht⟩ := lay_head r (d + 1) x y
    have hst2 : Stop (d + 1) (layL k (d + 1) (if k = 2 then x + r.w + 1 else x) (if k = 2 then y else y + r.h + 1) rs ++ rest) := by
      intro e t' he
      cases rs with
      | nil => simp only [layL, List.nil_append] at he; have := hst e t' he; omega
      | cons q qs =>
        obtain ⟨t2, ht2⟩ := lay_head q (d + 1) (if k = 2 then x + r.w + 1 else x) (if k = 2 then y else y + r.h + 1)
        simp only [layL, ht2, List.cons_append, List.cons.injEq] at he
        rw [← he.1]; simp
    have ih := growF_lay r f (d + 1) x y _ a3 (by omega) hst2
    simp only [layL, List.append_assoc]
    rw [ht, List.cons_append] at ih ⊢
    rw [growK_cons]
    simp only []
    rw [if_pos trivial, if_neg (by rw [hk]; exact a1), ih]
    simp only []
    rw [hk, hw, hh, if_pos a2, growK_lay rs f k w h c d _ _ rest (ks ++ [r]) (sum + (r.ext k + 1)) hl2 (by omega) hst hk hw hh]
    simp only [List.append_assoc, List.singleton_append, spanL]
    rw [show sum + (r.ext k + 1) + spanL k rs = sum + (r.ext k + 1 + spanL k rs) by omega]
end

/-- What growing gives. -/
theorem growF_ok (f : Nat) : (∀ (l : List Cl) (d : Int) (r : R) (l' : List Cl), growF f l d = some (r, l') → (∀ c ∈ l, CellFine c) → r.ok) ∧
    (∀ (c : Cl) (d : Int) (l : List Cl) (ks : List R) (sum : Int) (ks' : List R) (sum' : Int) (l' : List Cl), growK f c d l ks sum = some (ks', sum', l') → (∀ c ∈ l, CellFine c) → okL c.k c.w c.h ks →
      okL c.k c.w c.h ks' ∧ sum' - spanL c.k ks' = sum - spanL c.k ks) := by
  induction f with
  | zero => exact ⟨fun l d r l' h => by simp [growF] at h, fun c d l ks sum ks' sum' l' h => by simp [growK] at h⟩
  | succ f ih =>
    refine ⟨fun l d r l' h hf => ?_, fun c d l ks sum ks' sum' l' h hf hb => ?_⟩
    · cases l with
      | nil => simp [growF] at h
      | cons c t =>
        obtain ⟨c1, c2, c3, c4, c5⟩ := hf c (by simp)
        rw [growF_cons] at h
        split at h
        · rename_i hk
          simp only [Option.some.injEq, Prod.mk.injEq] at h
          obtain ⟨rfl, rfl⟩ := h
          simp only [R.ok]
          exact ⟨⟨c1, c2, c3, c4⟩, .inl ⟨trivial, trivial, by omega, by omega⟩⟩
        · rename_i hk
          split at h
          · cases h
          · rename_i ks sum l2 hK
            obtain ⟨e1, e2⟩ := ih.2 _ _ _ _ _ _ _ _ hK (fun e he => hf e (by simp [he])) trivial
            simp only [spanL] at e2
            split at h
            · cases h
            · rename_i hlen
              split at h
              · rename_i hsum
                simp only [Option.some.injEq, Prod.mk.injEq] at h
                obtain ⟨rfl, rfl⟩ := h
                simp only [R.ok]
                exact ⟨⟨c1, c2, c3, c4⟩, .inr ⟨by omega, trivial, by omega, e1, by omega⟩⟩
              · cases h
    · cases l with
      | nil =>
        rw [growK_nil] at h
        simp only [Option.some.injEq, Prod.mk.injEq] at h
        obtain ⟨rfl, rfl, rfl⟩ := h
        exact ⟨hb, rfl⟩
      | cons e t =>
        rw [growK_cons] at h
        split at h
        · split at h
          · cases h
          · rename_i hek
            split at h
            · cases h
            · rename_i r l2 hF
              obtain ⟨c', t', he', _, _, hrk, _, p, hp⟩ := (grow_tells f).1 _ _ _ _ hF
              simp only [List.cons.injEq] at he'
              split at h
              · rename_i hx
                have hr := ih.1 _ _ _ _ hF hf
                obtain ⟨e1, e2⟩ := ih.2 _ _ _ _ _ _ _ _ h (fun a ha => hf a (by rw [hp]; simp [ha])) ((okL_app _ _).2 ⟨hb, ⟨by rw [hrk, ← he'.1]; exact hek, hx, hr⟩, trivial⟩)
                refine ⟨e1, ?_⟩
                rw [e2, spanL_app]
                simp only [spanL]
                omega
              · cases h
        · simp only [Option.some.injEq, Prod.mk.injEq] at h
          obtain ⟨rfl, rfl, rfl⟩ := h
          exact ⟨hb, rfl⟩

/-- Which lists the program reads. -/
theorem readF_iff (l : List Cl) (r : R) : readF l = some r ↔ r.lay 0 0 0 = l ∧ r.isLay := by
  constructor
  · intro h
    unfold readF at h
    cases l with
    | nil => cases h
    | cons c t =>
      simp only [] at h
      split at h
      · rename_i h0
        cases hs : scan (c :: t) [] with
        | none => rw [hs] at h; cases h
        | some ids =>
          rw [hs] at h
          simp only [] at h
          split at h
          · rename_i h32
            cases hg : growF (2 * (c :: t).length + 1) (c :: t) 0 with
            | none => rw [hg] at h; cases h
            | some res =>
              obtain ⟨r', l'⟩ := res
              rw [hg] at h
              simp only [] at h
              split at h
              · rename_i h1
                cases h
                obtain ⟨rfl, h2⟩ := h1
                obtain ⟨s1, s2, s3⟩ := scan_tells _ _ _ hs (by simp)
                have hok := (growF_ok _).1 _ _ _ _ hg s3
                have hids := (lay_fine r 0 0 0 hok).2
                rw [h2] at hids
                rw [hids, List.nil_append] at s1
                subst s1
                exact ⟨h2, hok, s2, h32⟩
              · cases h
          · cases h
      · cases h
  · rintro ⟨rfl, hok, hnd, h32⟩
    obtain ⟨f1, f2⟩ := lay_fine r 0 0 0 hok
    have hc := cnt_ids r hok
    have hlen := R.lay_length r 0 0 0
    have hg := growF_lay r (2 * r.cnt + 1) 0 0 0 [] hok (by omega) (by intro e t he; cases he)
    rw [List.append_nil] at hg
    have hs := scan_all (r.lay 0 0 0) [] f1 (by rw [f2]; simpa using hnd)
    rw [f2, List.nil_append] at hs
    obtain ⟨t, ht⟩ := lay_head r 0 0 0
    have hwh := f1 _ (by rw [ht]; exact List.mem_cons_self ..)
    unfold readF
    rw [← hlen] at hg
    rw [ht] at hlen hs hg ⊢
    simp only []
    rw [if_pos ⟨by omega, (sideB_iff _).2 ⟨hwh.1, hwh.2.1⟩, (sideB_iff _).2 ⟨hwh.2.2.1, hwh.2.2.2.1⟩⟩, hs]
    simp only []
    rw [if_pos h32, hg]
    simp only []
    simp [ht]

end Go.Proofs.Ytpehceccnjdfeaa
