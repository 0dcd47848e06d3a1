/- Split: what its memory holds at the end, where the pane's parent is of the other kind, or is none. -/
import Derived.Test.YtpehceccnjdfeaaD5
namespace Go.Proofs.Ytpehceccnjdfeaa
open Go.RowKit

theorem Row.set {w : World} {a off cap i : Nat} {vs : List Value} (h : Row w a off cap vs) (v : Value) (hi : i < vs.length) : Row (w.setCell ⟨a, off + i, none⟩ v) a off cap (vs.take i ++ [v] ++ vs.drop (i + 1)) := by
  obtain ⟨cs, c1, c2, c3, c4⟩ := h.open
  refine Row.of (blk_set c1 (off + i) v) (by simp; omega) (by simp; omega) (fun j u hu => ?_)
  have l1 : (vs.take i).length = i := by simp; omega
  rw [List.append_assoc] at hu
  by_cases h1 : j < i
  · rw [List.getElem?_append_left (by omega), List.getElem?_take, if_pos h1] at hu
    rw [Array.getElem?_setIfInBounds_ne (by omega)]
    exact c4 j u hu
  · rw [List.getElem?_append_right (by omega), l1] at hu
    by_cases h2 : j = i
    · subst h2
      rw [Nat.sub_self] at hu
      simp at hu
      subst hu
      rw [Array.getElem?_setIfInBounds_self_of_lt (by omega)]
    · rw [List.getElem?_append_right (by simp; omega)] at hu
      simp only [List.length_singleton, List.getElem?_drop] at hu
      rw [Array.getElem?_setIfInBounds_ne (by omega)]
      have := c4 _ u hu
      rwa [show i + 1 + (j - i - 1) = j by omega] at this

/-- The new cell that is cut. -/
theorem node_rep {w : World} {b qb cb pb : Nat} {x y W H p id kind n : Int} {before : Bool} (hk : kind = 2 ∨ kind = 3) (hb : w.heap[b]? = some (.cells #[.int .i64 x, .int .i64 y, .int .i64 (setW kind (ext kind W H - 1 - n) W), .int .i64 (setH kind (ext kind W H - 1 - n) H), .int .i64 p] 100 (0, 0)))
    (hq : w.heap[qb]? = some (.cells #[.int .i64 x, .int .i64 y, .int .i64 (setW kind n W), .int .i64 (setH kind n H), .int .i64 id] 100 (0, 0)))
    (hc : w.heap[cb]? = some (.cells #[.int .i64 x, .int .i64 y, .int .i64 W, .int .i64 H, .int .i64 kind, .slice (some ⟨pb, 0, none⟩) 2 2] 105 (0, 0))) (hp : Row w pb 0 2 ((pairA (.leaf b) (.leaf qb) before).map A.val)) :
    Rep w (.split cb pb 0 2 (pairA (.leaf b) (.leaf qb) before)) (.mk kind W H 0 (cutPair kind n before id W H p)) :=
  ⟨rfl, hk, ⟨x, y, by rw [pair_len]; exact hc⟩, hp, pair_reps hb hq⟩
theorem node_blks {b qb cb pb : Nat} (before : Bool) : ∀ k, k ∈ (A.split cb pb 0 2 (pairA (.leaf b) (.leaf qb) before)).blks ↔ k = cb ∨ k = pb ∨ k = b ∨ k = qb := by
  intro k
  simp only [A.blks, List.mem_cons, pair_blks]
theorem node_nodup {b qb cb pb : Nat} (before : Bool) (h1 : cb ≠ pb) (h2 : cb ≠ b) (h3 : cb ≠ qb) (h4 : pb ≠ b) (h5 : pb ≠ qb) (h6 : b ≠ qb) : (A.split cb pb 0 2 (pairA (.leaf b) (.leaf qb) before)).blks.Nodup := by
  simp only [A.blks, List.nodup_cons, List.mem_cons, not_or, pair_blks]
  exact ⟨⟨h1, h2, h3⟩, ⟨h4, h5⟩, pair_nodup h6 before⟩

/-- The pane stands in a row or column of the other kind: the new cell in its place. -/
theorem split_other {w3 w8 w9 : World} {a : A} {r : R} {q : List Nat} {i b qb cb pb ub ua uoff ucap t : Nat} {uks : List A} {kids : List R} {k W0 H0 id0 x y W H p id kind n : Int} {kidR : R} {before : Bool}
    (hr : Rep w3 a r) (hn : a.blks.Nodup) (ha : a.at q = some (.split ub ua uoff ucap uks)) (hs : r.at q = some (.mk k W0 H0 id0 kids)) (hi : uks[i]? = some (.leaf b)) (hik : kids[i]? = some kidR) (hkind : k ≠ kind) (hk23 : kind = 2 ∨ kind = 3)
    (hu8 : Upd (fun j => j = b) w3 w8) (hb : w8.heap[b]? = some (.cells #[.int .i64 x, .int .i64 y, .int .i64 (setW kind (ext kind W H - 1 - n) W), .int .i64 (setH kind (ext kind W H - 1 - n) H), .int .i64 p] 100 (0, 0)))
    (hq : w8.heap[qb]? = some (.cells #[.int .i64 x, .int .i64 y, .int .i64 (setW kind n W), .int .i64 (setH kind n H), .int .i64 id] 100 (0, 0))) (hqb : w3.heap.size ≤ qb)
    (hc : w8.heap[cb]? = some (.cells #[.int .i64 x, .int .i64 y, .int .i64 W, .int .i64 H, .int .i64 kind, .slice (some ⟨pb, 0, none⟩) 2 2] 105 (0, 0))) (hp : Row w8 pb 0 2 ((pairA (.leaf b) (.leaf qb) before).map A.val))
    (hcb : w3.heap.size ≤ cb) (hpb : w3.heap.size ≤ pb) (d1 : cb ≠ pb) (d2 : cb ≠ qb) (d3 : pb ≠ qb) (hw9 : w9 = (w8.drewN t).setCell ⟨ua, uoff + i, none⟩ (A.split cb pb 0 2 (pairA (.leaf b) (.leaf qb) before)).val) :
    ∃ a', a'.val = a.val ∧ Rep w9 a' (r.cutAt kind (cutPair kind n before id W H p) W H (q ++ [i])) ∧ a'.blks.Nodup ∧ (∀ j ∈ a'.blks, j ∈ a.blks ∨ w3.heap.size ≤ j) ∧ Upd (fun j => j ∈ a.blks) w3 w9 := by
  obtain ⟨x1, hx1, hx2⟩ := Rep.at q a r _ hr hs
  rw [ha] at hx1
  cases hx1
  have hxn := A.at_nodup q a _ ha hn
  have hsub := A.at_blks q a _ ha
  have hlt : ∀ j ∈ (A.split ub ua uoff ucap uks).blks, j < w3.heap.size := fun j hj => (Rep.tyd a r hr j (hsub j hj)).lt
  have hx3 := hx2
  simp only [Rep] at hx3
  obtain ⟨rfl, _, ⟨x0, y0, hub⟩, hrow, _⟩ := hx3
  have hbx : b ∈ (A.split ub ua uoff ucap uks).blks := by
    simp only [A.blks, List.mem_cons]
    exact .inr (.inr (blksL_at hi b (by simp [A.blks])))
  have hn2 := hxn
  simp only [A.blks, List.nodup_cons, List.mem_cons, not_or] at hn2
  obtain ⟨⟨n1, n2⟩, n3, n4⟩ := hn2
  have hbub : b ≠ ub := by rintro rfl; exact n2 (blksL_at hi _ (by simp [A.blks]))
  have hbua : b ≠ ua := by rintro rfl; exact n3 (blksL_at hi _ (by simp [A.blks]))
  have lb := hlt b hbx
  have lub : ub < w3.heap.size := hlt ub (by simp [A.blks])
  have lua : ua < w3.heap.size := hlt ua (by simp [A.blks])
  have s8 := hu8.size
  have hil := (List.getElem?_eq_some_iff.1 hi).1
  have hub8 := blk_upd hub hu8 (Ne.symm hbub)
  have hub9 : w9.heap[ub]? = some (.cells #[.int .i64 x0, .int .i64 y0, .int .i64 W0, .int .i64 H0, .int .i64 k, .slice (some ⟨ua, uoff, none⟩) uks.length ucap] 105 (0, 0)) := by
    rw [hw9]; exact blk_far (show (w8.drewN t).heap[ub]? = _ from hub8) _ _ n1
  have far : ∀ {j : Nat} {o : Obj}, w8.heap[j]? = some o → j ≠ ua → w9.heap[j]? = some o := fun h hj => by rw [hw9]; exact blk_far (show (w8.drewN t).heap[_]? = _ from h) _ _ hj
  have hu : Upd (fun j => j = b ∨ j = ua) w3 w9 := by
    rw [hw9]
    exact ((hu8.mono fun _ _ e => .inl e).drewN t).setCell _ _ fun _ => .inr rfl
  have hrow8 : Row (w8.drewN t) ua uoff ucap (uks.map A.val) := by
    obtain ⟨cs, h1, h2⟩ := hrow
    exact ⟨cs, show w8.heap[ua]? = _ from blk_upd (S := fun j => j = b) h1 hu8 (fun e => hbua e.symm), h2⟩
  have hrow9 : Row w9 ua uoff ucap ((uks.take i ++ [A.split cb pb 0 2 (pairA (.leaf b) (.leaf qb) before)] ++ uks.drop (i + 1)).map A.val) := by
    have := hrow8.set (i := i) (A.split cb pb 0 2 (pairA (.leaf b) (.leaf qb) before)).val (by simpa using hil)
    rw [← hw9] at this
    simpa [List.map_take, List.map_drop] using this
  have hp9 : Row w9 pb 0 2 ((pairA (.leaf b) (.leaf qb) before).map A.val) := by
    obtain ⟨cs, h1, h2⟩ := hp
    exact ⟨cs, far h1 (by omega), h2⟩
  have hnode := node_rep hk23 (far hb hbua) (far hq (by omega)) (far hc (by omega)) hp9
  have hmem : ∀ j, j ∈ blksL [A.split cb pb 0 2 (pairA (.leaf b) (.leaf qb) before)] ↔ j = cb ∨ j = pb ∨ j = b ∨ j = qb := fun j => by
    rw [show blksL [A.split cb pb 0 2 (pairA (.leaf b) (.leaf qb) before)] = (A.split cb pb 0 2 (pairA (.leaf b) (.leaf qb) before)).blks by simp [blksL], node_blks]
  obtain ⟨t1, t2, t3⟩ := splice (S := fun j => j = b ∨ j = ua) (w' := w9) (g := ua) (off := uoff) (cap := ucap) (m := uks.length) (i := i) (news := [A.split cb pb 0 2 (pairA (.leaf b) (.leaf qb) before)]) (newr := [.mk kind W H 0 (cutPair kind n before id W H p)]) (x0 := x0) (y0 := y0)
    hx2 hxn hi ⟨hnode, trivial⟩ (by simpa [blksL] using node_nodup before d1 (by omega) d2 (by omega) d3 (by omega))
    (fun j hj => by
      rcases (hmem j).1 hj with rfl | rfl | rfl | rfl
      · exact .inr fun hm' => by have := hlt _ hm'; omega
      · exact .inr fun hm' => by have := hlt _ hm'; omega
      · exact .inl (by simp [A.blks])
      · exact .inr fun hm' => by have := hlt _ hm'; omega) hu
    (fun j _ h1 h2 h3 => by
      rintro (e | e)
      · exact h3 (by simp [A.blks, e])
      · exact h2 e)
    hub9 (by simp; omega) hrow9 (.inl rfl)
  obtain ⟨f1, f2, f3⟩ := fin_tree hr ha hs t1 rfl t2 (fun j hj => by
    rcases t3 j hj with rfl | e | e
    · exact .inl (by simp [A.blks])
    · rcases (hmem j).1 e with rfl | rfl | rfl | rfl
      · exact .inr hcb
      · exact .inr hpb
      · exact .inl hbx
      · exact .inr hqb
    · exact .inl e) hn hu (fun j _ hj => by
      rcases hj with rfl | rfl
      · exact hbx
      · simp [A.blks])
  refine ⟨a.upd q (.split ub ua uoff ucap (uks.take i ++ [A.split cb pb 0 2 (pairA (.leaf b) (.leaf qb) before)] ++ uks.drop (i + 1))), A.upd_val q a _ _ ha rfl, ?_, f2, f3, hu.mono ?_⟩
  · rw [cutAt_snoc kind _ W H q i r _ hs]
    have hkl := (List.getElem?_eq_some_iff.1 hik).1
    have : (R.mk k W0 H0 0 kids).cutAt kind (cutPair kind n before id W H p) W H [i] = .mk k W0 H0 0 (kids.take i ++ [.mk kind W H 0 (cutPair kind n before id W H p)] ++ kids.drop (i + 1)) := by
      rw [R.cutAt, if_neg (fun h => hkind h.2), hik]
      simp only []
      rw [List.set_eq_take_append_cons_drop, if_pos hkl]
      cases kidR
      simp [R.cutAt]
    rw [this]
    exact f1
  · rintro j _ (rfl | rfl)
    · exact hsub _ hbx
    · exact hsub _ (by simp [A.blks])

end Go.Proofs.Ytpehceccnjdfeaa
