/- A tree, changed at one place. -/
import Derived.Test.YtpehceccnjdfeaaD2
namespace Go.Proofs.Ytpehceccnjdfeaa
open Go.RowKit

def A.at : A → List Nat → Option A
  | a, [] => some a
  | .split _ _ _ _ ks, i :: q => match ks[i]? with | some k => k.at q | none => none
  | .leaf _, _ :: _ => none
termination_by _ q => q.length
def R.at : R → List Nat → Option R
  | r, [] => some r
  | .mk _ _ _ _ kids, i :: q => match kids[i]? with | some k => k.at q | none => none
termination_by _ q => q.length
def A.upd : A → List Nat → A → A
  | _, [], x => x
  | .split b a off cap ks, i :: q, x => .split b a off cap (match ks[i]? with | some k => ks.set i (k.upd q x) | none => ks)
  | .leaf b, _ :: _, _ => .leaf b
termination_by _ q => q.length
def R.upd : R → List Nat → R → R
  | _, [], x => x
  | .mk k w h id kids, i :: q, x => .mk k w h id (match kids[i]? with | some z => kids.set i (z.upd q x) | none => kids)
termination_by _ q => q.length

theorem A.at_nil (a : A) : a.at [] = some a := by cases a <;> simp [A.at]
theorem R.at_nil (r : R) : r.at [] = some r := by cases r; simp [R.at]
theorem A.upd_nil (a x : A) : a.upd [] x = x := by cases a <;> simp [A.upd]
theorem R.upd_nil (r x : R) : r.upd [] x = x := by cases r; simp [R.upd]

/-- The tree at a place of what stands for it. -/
theorem Rep.at {w : World} : ∀ (q : List Nat) (a : A) (r s : R), Rep w a r → r.at q = some s → ∃ b, a.at q = some b ∧ Rep w b s
  | [], a, r, s, h, hs => by
    rw [R.at_nil] at hs
    cases hs
    exact ⟨a, A.at_nil a, h⟩
  | i :: q, .leaf b, .mk k W H id kids, s, h, hs => by
    simp only [Rep] at h
    obtain ⟨_, rfl, _⟩ := h
    simp [R.at] at hs
  | i :: q, .split b a off cap ks, .mk k W H id kids, s, h, hs => by
    simp only [Rep] at h
    have hI := (Reps_iff w ks kids).1 h.2.2.2.2
    simp only [R.at] at hs
    cases hk : kids[i]? with
    | none => rw [hk] at hs; cases hs
    | some z =>
      rw [hk] at hs
      obtain ⟨y, hy⟩ : ∃ y, ks[i]? = some y := ⟨ks[i]'(by rw [hI.1]; exact (List.getElem?_eq_some_iff.1 hk).1), by simp⟩
      obtain ⟨x, hx1, hx2⟩ := Rep.at q y z s (hI.2 i y z hy hk) hs
      exact ⟨x, by simp only [A.at, hy]; exact hx1, hx2⟩

theorem A.at_blks : ∀ (q : List Nat) (a x : A), a.at q = some x → ∀ k ∈ x.blks, k ∈ a.blks
  | [], a, x, h, k, hk => by rw [A.at_nil] at h; cases h; exact hk
  | i :: q, .leaf b, x, h, k, hk => by simp [A.at] at h
  | i :: q, .split b a off cap ks, x, h, k, hk => by
    simp only [A.at] at h
    cases hy : ks[i]? with
    | none => rw [hy] at h; cases h
    | some y =>
      rw [hy] at h
      have := A.at_blks q y x h k hk
      simp only [A.blks, List.mem_cons]
      exact .inr (.inr (blksL_at hy k this))

theorem A.upd_val : ∀ (q : List Nat) (a x x' : A), a.at q = some x → x'.val = x.val → (a.upd q x').val = a.val
  | [], a, x, x', h, hv => by rw [A.at_nil] at h; cases h; rw [A.upd_nil]; exact hv
  | i :: q, .leaf b, x, x', h, hv => by simp [A.at] at h
  | i :: q, .split b a off cap ks, x, x', h, hv => by simp only [A.upd]; rfl

theorem Reps.set2 {S : Nat → Prop} {w w' : World} {ks : List A} {rs : List R} (h : Reps w ks rs) (hu : Upd S w w') {j : Nat} {a' : A} {r' : R} (hr : Rep w' a' r')
    (hs : ∀ i b, ks[i]? = some b → i ≠ j → ∀ k ∈ b.blks, ¬ S k) : Reps w' (ks.set j a') (rs.set j r') := by
  rw [Reps_iff] at h ⊢
  refine ⟨by simpa using h.1, fun i b s hb hsi => ?_⟩
  rw [List.getElem?_set] at hb hsi
  by_cases hij : j = i
  · subst hij
    rw [if_pos rfl] at hb hsi
    split at hb
    · split at hsi
      · cases hb; cases hsi; exact hr
      · cases hsi
    · cases hb
  · rw [if_neg hij] at hb hsi
    exact (h.2 i b s hb hsi).upd hu (hs i b hb (fun e => hij e.symm))

/-- A tree with another one at a place, whose own cell's place is as it was. -/
theorem Rep.updAt {S : Nat → Prop} {w w' : World} (hu : Upd S w w') : ∀ (q : List Nat) (a : A) (r : R) (x x' : A) (s s' : R), Rep w a r → a.at q = some x → r.at q = some s → Rep w' x' s' → x'.val = x.val → a.blks.Nodup →
    (∀ k ∈ a.blks, k ∉ x.blks → ¬ S k) → Rep w' (a.upd q x') (r.upd q s')
  | [], a, r, x, x', s, s', h, ha, hr, hx, hv, hn, hs => by rw [A.upd_nil, R.upd_nil]; exact hx
  | i :: q, .leaf b, r, x, x', s, s', h, ha, hr, hx, hv, hn, hs => by simp [A.at] at ha
  | i :: q, .split b a off cap ks, .mk k W H id kids, x, x', s, s', h, ha, hr, hx, hv, hn, hs => by
    simp only [Rep] at h
    obtain ⟨h1, h2, ⟨x0, y0, h3⟩, h4, h5⟩ := h
    have hI := (Reps_iff w ks kids).1 h5
    simp only [A.at] at ha
    simp only [R.at] at hr
    cases hy : ks[i]? with
    | none => rw [hy] at ha; cases ha
    | some y =>
      cases hz : kids[i]? with
      | none => rw [hz] at hr; cases hr
      | some z =>
        rw [hy] at ha
        rw [hz] at hr
        simp only [A.blks, List.nodup_cons, List.mem_cons, not_or] at hn
        obtain ⟨⟨n1, n2⟩, n3, n4⟩ := hn
        have hsub : ∀ k ∈ x.blks, k ∈ blksL ks := fun k hk => blksL_at hy k (A.at_blks q y x ha k hk)
        have ih := Rep.updAt hu q y z x x' s s' (hI.2 i y z hy hz) ha hr hx hv (blks_nodup_at n4 hy) (fun k hk hkx => hs k (by simp only [A.blks, List.mem_cons]; exact .inr (.inr (blksL_at hy k hk))) hkx)
        have hval := A.upd_val q y x x' ha hv
        simp only [A.upd, R.upd, hy, hz, Rep]
        have sb : ¬ S b := hs b (by simp [A.blks]) (fun hb => n2 (hsub b hb))
        have sa : ¬ S a := hs a (by simp [A.blks]) (fun hb => n3 (hsub a hb))
        refine ⟨h1, h2, ⟨x0, y0, by rw [List.length_set]; exact blk_upd h3 hu sb⟩, ?_, ?_⟩
        · have e : (ks.set i (y.upd q x')).map A.val = ks.map A.val := by
            rw [List.map_set, hval]
            apply List.ext_getElem?
            intro j
            rw [List.getElem?_set]
            split
            · rename_i hij
              subst hij
              split
              · rw [List.getElem?_map, hy]; rfl
              · rename_i hlt
                rw [List.getElem?_eq_none (by omega)]
            · rfl
          rw [e]
          obtain ⟨cs, hcs, hrest⟩ := h4
          exact ⟨cs, blk_upd hcs hu sa, hrest⟩
        · exact h5.set2 hu ih (fun j b' hj hne k hk => hs k (by simp only [A.blks, List.mem_cons]; exact .inr (.inr (blksL_at hj k hk))) (fun hkx => blks_apart n4 hj hy hne k hk (A.at_blks q y x ha k hkx)))

/-- The blocks of such a tree. -/
theorem A.upd_blks : ∀ (q : List Nat) (a x x' : A), a.at q = some x → a.blks.Nodup → x'.blks.Nodup → (∀ k ∈ x'.blks, k ∈ x.blks ∨ k ∉ a.blks) → (a.upd q x').blks.Nodup ∧ ∀ k ∈ (a.upd q x').blks, k ∈ x'.blks ∨ k ∈ a.blks
  | [], a, x, x', h, hn, hn', hk => by rw [A.upd_nil]; exact ⟨hn', fun k hk => .inl hk⟩
  | i :: q, .leaf b, x, x', h, hn, hn', hk => by simp [A.at] at h
  | i :: q, .split b a off cap ks, x, x', h, hn, hn', hk => by
    simp only [A.at] at h
    cases hy : ks[i]? with
    | none => rw [hy] at h; cases h
    | some y =>
      rw [hy] at h
      have hn0 := hn
      simp only [A.blks, List.nodup_cons, List.mem_cons, not_or] at hn
      obtain ⟨⟨n1, n2⟩, n3, n4⟩ := hn
      have hmem : ∀ k, k ∈ y.blks → k ∈ (A.split b a off cap ks).blks := fun k hk => by simp only [A.blks, List.mem_cons]; exact .inr (.inr (blksL_at hy k hk))
      obtain ⟨ih1, ih2⟩ := A.upd_blks q y x x' h (blks_nodup_at n4 hy) hn' (fun k hkx => (hk k hkx).imp id fun h hy' => h (hmem k hy'))
      simp only [A.upd, hy]
      obtain ⟨hi, hyi⟩ := List.getElem?_eq_some_iff.1 hy
      have hsplit : ks = ks.take i ++ y :: ks.drop (i + 1) := by
        rw [← hyi, List.getElem_cons_drop, List.take_append_drop]
      have hset : ks.set i (y.upd q x') = ks.take i ++ (y.upd q x') :: ks.drop (i + 1) := by
        rw [List.set_eq_take_append_cons_drop, if_pos hi]
      have hall : blksL ks = blksL (ks.take i) ++ (y.blks ++ blksL (ks.drop (i + 1))) := by
        conv => lhs; rw [hsplit]
        rw [blksL_append, blksL]
      have hall2 : blksL (ks.set i (y.upd q x')) = blksL (ks.take i) ++ ((y.upd q x').blks ++ blksL (ks.drop (i + 1))) := by
        rw [hset, blksL_append, blksL]
      -- a block of the new part lies in the old part, or in no old part at all
      have hnew : ∀ k ∈ (y.upd q x').blks, k ∈ y.blks ∨ k ∉ (A.split b a off cap ks).blks := fun k hk' => by
        rcases ih2 k hk' with e | e
        · rcases hk k e with e' | e'
          · exact .inl (A.at_blks q y x h k e')
          · exact .inr e'
        · exact .inl e
      rw [hall] at n2 n3 n4
      simp only [List.mem_append, not_or] at n2 n3
      rw [List.nodup_append, List.nodup_append] at n4
      obtain ⟨m1, ⟨m2, m3, m4⟩, m5⟩ := n4
      have hin : ∀ k, (k ∈ blksL (ks.take i) ∨ k ∈ blksL (ks.drop (i + 1))) → k ∈ (A.split b a off cap ks).blks := fun k hk' => by
        simp only [A.blks, List.mem_cons, hall, List.mem_append]
        rcases hk' with e | e
        · exact .inr (.inr (.inl e))
        · exact .inr (.inr (.inr (.inr e)))
      refine ⟨?_, fun k hk' => ?_⟩
      · simp only [A.blks, List.nodup_cons, List.mem_cons, not_or, hall2, List.mem_append]
        refine ⟨⟨n1, n2.1, fun e => ?_, n2.2.2⟩, ⟨n3.1, fun e => ?_, n3.2.2⟩, ?_⟩
        · rcases hnew b e with e' | e'
          · exact n2.2.1 e'
          · exact e' (by simp [A.blks])
        · rcases hnew a e with e' | e'
          · exact n3.2.1 e'
          · exact e' (by simp [A.blks])
        · rw [List.nodup_append, List.nodup_append]
          refine ⟨m1, ⟨ih1, m3, fun u hu v hv huv => ?_⟩, fun u hu v hv huv => ?_⟩
          · subst huv
            rcases hnew u hu with e' | e'
            · exact m4 u e' u hv rfl
            · exact e' (hin u (.inr hv))
          · subst huv
            rcases List.mem_append.1 hv with hv | hv
            · rcases hnew u hv with e' | e'
              · exact m5 u hu u (List.mem_append_left _ e') rfl
              · exact e' (hin u (.inl hu))
            · exact m5 u hu u (List.mem_append_right _ hv) rfl
      · simp only [A.blks, List.mem_cons, hall2, List.mem_append] at hk'
        rcases hk' with rfl | rfl | e | e | e
        · exact .inr (by simp [A.blks])
        · exact .inr (by simp [A.blks])
        · exact .inr (hin k (.inl e))
        · rcases ih2 k e with e' | e'
          · exact .inl e'
          · exact .inr (hmem k e')
        · exact .inr (hin k (.inr e))

/-- The last cells of a way. -/
theorem way_at : ∀ (q : List Nat) (a x : A), a.at q = some x → (a.way q).length = q.length + 1 ∧ (a.way q)[q.length]? = some x
  | [], a, x, h => by rw [A.at_nil] at h; cases h; rw [way_nil]; simp
  | i :: q, .leaf b, x, h => by simp [A.at] at h
  | i :: q, .split b a off cap ks, x, h => by
    simp only [A.at] at h
    cases hy : ks[i]? with
    | none => rw [hy] at h; cases h
    | some y =>
      rw [hy] at h
      obtain ⟨h1, h2⟩ := way_at q y x h
      simp only [A.way, hy, List.length_cons, h1]
      exact ⟨trivial, by simpa using h2⟩
theorem way_at_up : ∀ (q : List Nat) (i : Nat) (a x y : A), a.at q = some x → a.at (q ++ [i]) = some y → (a.way (q ++ [i]))[q.length]? = some x
  | [], i, .leaf b, x, y, h, h2 => by simp [A.at] at h2
  | [], i, .split b a off cap ks, x, y, h, h2 => by
    rw [A.at_nil] at h; cases h
    simp [A.way]
  | j :: q, i, .leaf b, x, y, h, h2 => by simp [A.at] at h
  | j :: q, i, .split b a off cap ks, x, y, h, h2 => by
    simp only [A.at, List.cons_append] at h h2
    cases hy : ks[j]? with
    | none => rw [hy] at h; cases h
    | some z =>
      rw [hy] at h h2
      have := way_at_up q i z x y h h2
      simp only [A.way, List.cons_append, hy, List.length_cons]
      simpa using this
theorem A.at_snoc : ∀ (q : List Nat) (i : Nat) (a y : A), a.at (q ++ [i]) = some y → ∃ b ar off cap ks, a.at q = some (.split b ar off cap ks) ∧ ks[i]? = some y
  | [], i, .leaf b, y, h => by simp [A.at] at h
  | [], i, .split b a off cap ks, y, h => by
    simp only [A.at, List.nil_append] at h
    cases hy : ks[i]? with
    | none => rw [hy] at h; cases h
    | some z =>
      rw [hy] at h
      simp only [A.at_nil, Option.some.injEq] at h
      subst h
      exact ⟨b, a, off, cap, ks, A.at_nil _, hy⟩
  | j :: q, i, .leaf b, y, h => by simp [A.at] at h
  | j :: q, i, .split b a off cap ks, y, h => by
    simp only [A.at, List.cons_append] at h
    cases hy : ks[j]? with
    | none => rw [hy] at h; cases h
    | some z =>
      rw [hy] at h
      obtain ⟨b', ar, off', cap', ks', h1, h2⟩ := A.at_snoc q i z y h
      exact ⟨b', ar, off', cap', ks', by simp only [A.at, hy]; exact h1, h2⟩
theorem R.at_snoc : ∀ (q : List Nat) (i : Nat) (a y : R), a.at (q ++ [i]) = some y → ∃ k W H id kids, a.at q = some (.mk k W H id kids) ∧ kids[i]? = some y
  | [], i, .mk k W H id kids, y, h => by
    simp only [R.at, List.nil_append] at h
    cases hy : kids[i]? with
    | none => rw [hy] at h; cases h
    | some z =>
      rw [hy] at h
      simp only [R.at_nil, Option.some.injEq] at h
      subst h
      exact ⟨k, W, H, id, kids, R.at_nil _, hy⟩
  | j :: q, i, .mk k W H id kids, y, h => by
    simp only [R.at, List.cons_append] at h
    cases hy : kids[j]? with
    | none => rw [hy] at h; cases h
    | some z =>
      rw [hy] at h
      obtain ⟨k', W', H', id', kids', h1, h2⟩ := R.at_snoc q i z y h
      exact ⟨k', W', H', id', kids', by simp only [R.at, hy]; exact h1, h2⟩

end Go.Proofs.Ytpehceccnjdfeaa
