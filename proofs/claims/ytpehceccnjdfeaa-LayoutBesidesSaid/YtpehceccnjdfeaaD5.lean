/- Split: what its memory holds at the end. -/
import Derived.Test.YtpehceccnjdfeaaD4
namespace Go.Proofs.Ytpehceccnjdfeaa
open Go.RowKit

theorem ownsRow_mono {w : World} {base base' : Nat} {e : TypeId} {size : Nat} {v : Value} {n : Nat} {xs : List Value} (h : w.ownsRow base e size v n xs) (hb : base' ≤ base) : w.ownsRow base' e size v n xs :=
  ⟨h.1, h.2.imp id fun ⟨g, cap, cur, h1, h2, h3⟩ => ⟨g, cap, cur, h1, Nat.le_trans hb h2, h3⟩⟩

theorem A.at_nodup : ∀ (q : List Nat) (a x : A), a.at q = some x → a.blks.Nodup → x.blks.Nodup
  | [], a, x, h, hn => by rw [A.at_nil] at h; cases h; exact hn
  | i :: q, .leaf b, x, h, hn => by simp [A.at] at h
  | i :: q, .split b a off cap ks, x, h, hn => by
    simp only [A.at] at h
    cases hy : ks[i]? with
    | none => rw [hy] at h; cases h
    | some y =>
      rw [hy] at h
      simp only [A.blks, List.nodup_cons] at hn
      exact A.at_nodup q y x h (blks_nodup_at hn.2.2 hy)

/-- A tree with a part changed, in the world behind. -/
theorem fin_tree {S : Nat → Prop} {w3 w9 : World} {a x x' : A} {r s s' : R} {q : List Nat} (hr : Rep w3 a r) (ha : a.at q = some x) (hs : r.at q = some s) (hx : Rep w9 x' s') (hv : x'.val = x.val) (hn' : x'.blks.Nodup)
    (hk : ∀ k ∈ x'.blks, k ∈ x.blks ∨ w3.heap.size ≤ k) (hn : a.blks.Nodup) (hu : Upd S w3 w9) (hS : ∀ k, k ∈ a.blks → S k → k ∈ x.blks) :
    Rep w9 (a.upd q x') (r.upd q s') ∧ (a.upd q x').blks.Nodup ∧ (∀ k ∈ (a.upd q x').blks, k ∈ a.blks ∨ w3.heap.size ≤ k) := by
  obtain ⟨h1, h2⟩ := A.upd_blks q a x x' ha hn hn' (fun k hk' => (hk k hk').imp id fun h hm => by have := (Rep.tyd a r hr k hm).lt; omega)
  refine ⟨Rep.updAt hu q a r x x' s s' hr ha hs hx hv hn (fun k hk' hkx hS' => hkx (hS k hk' hS')), h1, fun k hk' => ?_⟩
  rcases h2 k hk' with e | e
  · rcases hk k e with e' | e'
    · exact .inl (A.at_blks q a x ha k e')
    · exact .inr e'
  · exact .inl e

/-- The list of a tree, written: the call's own. -/
theorem fin_list {w w3 w9 w10 : World} {S : Nat → Prop} {a a' : A} {r' : R} {e : Ending} (hb : Below w.heap.size w w3) (hk : ∀ k ∈ a.blks, w.heap.size ≤ k) (hu : Upd S w3 w9) (hS : ∀ k, k < w3.heap.size → S k → k ∈ a.blks)
    (hk' : ∀ k ∈ a'.blks, k ∈ a.blks ∨ w3.heap.size ≤ k) (h : WritePost w9 a' r' e w10) : ∃ v, e = .returned v ∧ Owned w10 w.heap.size v (r'.lay 0 0 0) ∧ Below w.heap.size w w10 := by
  obtain ⟨v, rfl, h1, _, _, h2⟩ := h
  have hsz := hb.size
  have hsz9 := hu.size
  refine ⟨v, rfl, ownsRow_mono h1 (by omega), ?_⟩
  refine (hb.trans (hu.below _ hsz fun k hk2 hs => hk k (hS k hk2 hs))).trans (h2.below _ (by omega) fun k _ hs => ?_)
  rcases hk' k hs with e | e
  · exact hk k e
  · omega

/-- Extents. -/
def setW (kind v W : Int) : Int := if kind = 2 then v else W
def setH (kind v H : Int) : Int := if kind = 2 then H else v
theorem setExt_eq (kind v k W H i : Int) (ks : List R) : (R.mk k W H i ks).setExt kind v = .mk k (setW kind v W) (setH kind v H) i ks := by
  simp only [R.setExt]; unfold setW setH; split <;> rfl

theorem set_five (b : Nat) (x y W H : Int) (u : Value) (t : TypeId) (kind n : Int) (w : World) (hb : w.heap[b]? = some (.cells #[.int .i64 x, .int .i64 y, .int .i64 W, .int .i64 H, u] t (0, 0))) :
    Calls Try.prog 71 #[.pointer (some ⟨b, 0, none⟩), .int .i64 kind, .int .i64 n] w fun e w' => e = .returned (.tuple #[]) ∧ w'.heap[b]? = some (.cells #[.int .i64 x, .int .i64 y, .int .i64 (setW kind n W), .int .i64 (setH kind n H), u] t (0, 0)) ∧ Upd (fun k => k = b) w w' := by
  refine (set_any b 0 _ _ kind n w (blk_cell hb 2) (blk_cell hb 3) (blk_free hb 2) (blk_free hb 3)).mono ?_
  rintro e w' ⟨rfl, rfl⟩
  refine ⟨rfl, ?_, (Upd.refl _ w).setCell _ _ fun _ => rfl⟩
  have := blk_set hb (0 + (if kind = 2 then 2 else 3)) (.int .i64 n)
  rw [this]
  unfold setW setH
  split <;> simp
theorem set_six (b : Nat) (x y W H : Int) (u v : Value) (t : TypeId) (kind n : Int) (w : World) (hb : w.heap[b]? = some (.cells #[.int .i64 x, .int .i64 y, .int .i64 W, .int .i64 H, u, v] t (0, 0))) :
    Calls Try.prog 71 #[.pointer (some ⟨b, 0, none⟩), .int .i64 kind, .int .i64 n] w fun e w' => e = .returned (.tuple #[]) ∧ w'.heap[b]? = some (.cells #[.int .i64 x, .int .i64 y, .int .i64 (setW kind n W), .int .i64 (setH kind n H), u, v] t (0, 0)) ∧ Upd (fun k => k = b) w w' := by
  refine (set_any b 0 _ _ kind n w (blk_cell hb 2) (blk_cell hb 3) (blk_free hb 2) (blk_free hb 3)).mono ?_
  rintro e w' ⟨rfl, rfl⟩
  refine ⟨rfl, ?_, (Upd.refl _ w).setCell _ _ fun _ => rfl⟩
  have := blk_set hb (0 + (if kind = 2 then 2 else 3)) (.int .i64 n)
  rw [this]
  unfold setW setH
  split <;> simp

theorem set_back (kind v W H : Int) : setW kind (ext kind W H) (setW kind v W) = W ∧ setH kind (ext kind W H) (setH kind v H) = H := by
  unfold setW setH ext; split <;> simp

theorem pair_reps {w : World} {b qb : Nat} {x y W H p id kind n : Int} {before : Bool} (hb : w.heap[b]? = some (.cells #[.int .i64 x, .int .i64 y, .int .i64 (setW kind (ext kind W H - 1 - n) W), .int .i64 (setH kind (ext kind W H - 1 - n) H), .int .i64 p] 100 (0, 0)))
    (hq : w.heap[qb]? = some (.cells #[.int .i64 x, .int .i64 y, .int .i64 (setW kind n W), .int .i64 (setH kind n H), .int .i64 id] 100 (0, 0))) :
    Reps w (pairA (.leaf b) (.leaf qb) before) (cutPair kind n before id W H p) := by
  have h1 : Rep w (.leaf b) ((R.mk 1 W H p []).setExt kind (ext kind W H - 1 - n)) := by rw [setExt_eq]; exact ⟨rfl, rfl, x, y, hb⟩
  have h2 : Rep w (.leaf qb) ((R.mk 1 W H id []).setExt kind n) := by rw [setExt_eq]; exact ⟨rfl, rfl, x, y, hq⟩
  cases before
  · exact ⟨h1, h2, trivial⟩
  · exact ⟨h2, h1, trivial⟩
theorem pair_blks (b qb : Nat) (before : Bool) : ∀ k, k ∈ blksL (pairA (.leaf b) (.leaf qb) before) ↔ k = b ∨ k = qb := by
  intro k
  cases before
  · simp [pairA, blksL, A.blks]
  · simp [pairA, blksL, A.blks, or_comm]
theorem pair_nodup {b qb : Nat} (h : b ≠ qb) (before : Bool) : (blksL (pairA (.leaf b) (.leaf qb) before)).Nodup := by
  cases before
  · simp [pairA, blksL, A.blks, h]
  · simp [pairA, blksL, A.blks, Ne.symm h]
theorem pair_len (u v : A) (before : Bool) : (pairA u v before).length = 2 := by cases before <;> rfl

/-- The pane stands in a row or column of that kind: one child more. -/
theorem split_same {w3 w6 w7 w8 : World} {a : A} {r : R} {q : List Nat} {i b qb ub ua uoff ucap g off cap m : Nat} {uks : List A} {kids : List R} {k W0 H0 id0 x y W H p id kind n : Int} {kidR : R} {before : Bool}
    (hr : Rep w3 a r) (hn : a.blks.Nodup) (ha : a.at q = some (.split ub ua uoff ucap uks)) (hs : r.at q = some (.mk k W0 H0 id0 kids)) (hi : uks[i]? = some (.leaf b)) (hik : kids[i]? = some kidR) (hkind : k = kind)
    (hu6 : Upd (fun j => j = b) w3 w6) (hb : w6.heap[b]? = some (.cells #[.int .i64 x, .int .i64 y, .int .i64 (setW kind (ext kind W H - 1 - n) W), .int .i64 (setH kind (ext kind W H - 1 - n) H), .int .i64 p] 100 (0, 0)))
    (hq : w6.heap[qb]? = some (.cells #[.int .i64 x, .int .i64 y, .int .i64 (setW kind n W), .int .i64 (setH kind n H), .int .i64 id] 100 (0, 0))) (hqb : w3.heap.size ≤ qb)
    (hu7 : Upd (fun _ => False) w6 w7) (hrow : Row w8 g off cap ((uks.map A.val).take i ++ (pairA (.leaf b) (.leaf qb) before).map A.val ++ (uks.map A.val).drop (i + 1))) (hg : g = ua ∨ w7.heap.size ≤ g) (hu8 : Upd (fun j => j = ua) w7 w8) (hm : m = uks.length + 2 - 1) :
    ∃ a', a'.val = a.val ∧ Rep (w8.setCell ⟨ub, 5, none⟩ (.slice (some ⟨g, off, none⟩) m cap)) a' (r.cutAt kind (cutPair kind n before id W H p) W H (q ++ [i])) ∧ a'.blks.Nodup ∧ (∀ j ∈ a'.blks, j ∈ a.blks ∨ w3.heap.size ≤ j) ∧
      Upd (fun j => j ∈ a.blks) w3 (w8.setCell ⟨ub, 5, none⟩ (.slice (some ⟨g, off, none⟩) m cap)) := by
  obtain ⟨x1, hx1, hx2⟩ := Rep.at q a r _ hr hs
  rw [ha] at hx1
  cases hx1
  have hxn := A.at_nodup q a _ ha hn
  have hsub := A.at_blks q a _ ha
  have hlt : ∀ j ∈ (A.split ub ua uoff ucap uks).blks, j < w3.heap.size := fun j hj => (Rep.tyd a r hr j (hsub j hj)).lt
  have hx3 := hx2
  simp only [Rep] at hx3
  obtain ⟨rfl, hk23, ⟨x0, y0, hub⟩, _, _⟩ := hx3
  have hbx : b ∈ (A.split ub ua uoff ucap uks).blks := by
    simp only [A.blks, List.mem_cons]
    exact .inr (.inr (blksL_at hi b (by simp [A.blks])))
  have hn2 := hxn
  simp only [A.blks, List.nodup_cons, List.mem_cons, not_or] at hn2
  obtain ⟨⟨n1, n2⟩, n3, n4⟩ := hn2
  have hbub : b ≠ ub := by rintro rfl; exact n2 (blksL_at hi _ (by simp [A.blks]))
  have hbua : b ≠ ua := by rintro rfl; exact n3 (blksL_at hi _ (by simp [A.blks]))
  have lb := hlt b hbx
  have lub : ub < w3.heap.size := hlt ub (by simp [A.blks])
  have lua : ua < w3.heap.size := hlt ua (by simp [A.blks])
  have s6 := hu6.size
  have s7 := hu7.size
  have hub7 : w8.heap[ub]? = some (.cells #[.int .i64 x0, .int .i64 y0, .int .i64 W0, .int .i64 H0, .int .i64 k, .slice (some ⟨ua, uoff, none⟩) uks.length ucap] 105 (0, 0)) :=
    blk_upd (blk_upd (blk_upd hub hu6 (Ne.symm hbub)) hu7 (fun h => h)) hu8 n1
  have hb8 := blk_upd (blk_upd hb hu7 (fun h => h)) hu8 hbua
  have hq8 := blk_upd (blk_upd hq hu7 (fun h => h)) hu8 (by omega)
  have hu : Upd (fun j => j = b ∨ j = ua ∨ j = ub) w3 (w8.setCell ⟨ub, 5, none⟩ (.slice (some ⟨g, off, none⟩) m cap)) :=
    (((hu6.mono fun _ _ e => .inl e).then_ hu7 fun _ _ h => h.elim).then_ hu8 fun _ _ e => .inr (.inl e)).setCell _ _ fun _ => .inr (.inr rfl)
  have hgu : g ≠ ub := by rcases hg with rfl | e; exact Ne.symm n1; omega
  have hrow9 : Row (w8.setCell ⟨ub, 5, none⟩ (.slice (some ⟨g, off, none⟩) m cap)) g off cap ((uks.take i ++ pairA (.leaf b) (.leaf qb) before ++ uks.drop (i + 1)).map A.val) := by
    have e : (uks.take i ++ pairA (.leaf b) (.leaf qb) before ++ uks.drop (i + 1)).map A.val = (uks.map A.val).take i ++ (pairA (.leaf b) (.leaf qb) before).map A.val ++ (uks.map A.val).drop (i + 1) := by
      simp [List.map_take, List.map_drop]
    rw [e]
    obtain ⟨cs, h1, h2⟩ := hrow
    exact ⟨cs, blk_far h1 _ _ hgu, h2⟩
  have hil := (List.getElem?_eq_some_iff.1 hi).1
  have hq3 : ∀ j, j ∈ (A.split ub ua uoff ucap uks).blks → j ≠ qb := fun j hj => by have := hlt j hj; omega
  obtain ⟨t1, t2, t3⟩ := splice (S := fun j => j = b ∨ j = ua ∨ j = ub) (w' := w8.setCell ⟨ub, 5, none⟩ (.slice (some ⟨g, off, none⟩) m cap)) (g := g) (off := off) (cap := cap) (m := m) (i := i) (news := pairA (.leaf b) (.leaf qb) before) (newr := cutPair kind n before id W H p) (x0 := x0) (y0 := y0)
    hx2 hxn hi (pair_reps (blk_far hb8 _ _ hbub) (blk_far hq8 _ _ (by show qb ≠ ub; omega))) (pair_nodup (by omega) before)
    (fun j hj => by
      rcases (pair_blks b qb before j).1 hj with rfl | rfl
      · exact .inl (by simp [A.blks])
      · exact .inr fun hm' => hq3 _ hm' rfl) hu
    (fun j _ h1 h2 h3 => by
      rintro (e | e | e)
      · exact h3 (by simp [A.blks, e])
      · exact h2 e
      · exact h1 e)
    (by rw [blk_set hub7 5]; simp) (by rw [hm, List.length_append, List.length_append, pair_len]; simp; omega) hrow9
    (by
      rcases hg with e | e
      · exact .inl e
      · refine .inr ⟨fun hm' => by have := hlt g hm'; omega, fun hm' => ?_⟩
        have hql := blk_lt hq
        rcases (pair_blks b qb before g).1 hm' with rfl | rfl <;> omega)
  obtain ⟨f1, f2, f3⟩ := fin_tree hr ha hs t1 rfl t2 (fun j hj => by
    rcases t3 j hj with rfl | e | e
    · rcases hg with rfl | e
      · exact .inl (by simp [A.blks])
      · exact .inr (by omega)
    · rcases (pair_blks b qb before j).1 e with rfl | rfl
      · exact .inl hbx
      · exact .inr hqb
    · exact .inl e) hn hu (fun j _ hj => by
      rcases hj with rfl | rfl | rfl
      · exact hbx
      · simp [A.blks]
      · simp [A.blks])
  refine ⟨a.upd q (.split ub g off cap (uks.take i ++ pairA (.leaf b) (.leaf qb) before ++ uks.drop (i + 1))), A.upd_val q a _ _ ha rfl, ?_, f2, f3, hu.mono ?_⟩
  · rw [cutAt_snoc kind _ W H q i r _ hs]
    have : (R.mk k W0 H0 0 kids).cutAt kind (cutPair kind n before id W H p) W H [i] = .mk k W0 H0 0 (kids.take i ++ cutPair kind n before id W H p ++ kids.drop (i + 1)) := by
      rw [R.cutAt, if_pos ⟨rfl, hkind⟩]
    rw [this]
    exact f1
  · rintro j _ (rfl | rfl | rfl)
    · exact hsub _ hbx
    · exact hsub _ (by simp [A.blks])
    · exact hsub _ (by simp [A.blks])

end Go.Proofs.Ytpehceccnjdfeaa
