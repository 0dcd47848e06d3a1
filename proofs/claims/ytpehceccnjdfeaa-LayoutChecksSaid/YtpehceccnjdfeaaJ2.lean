/- The reference's cut: a pane. -/
import Derived.Test.YtpehceccnjdfeaaJ1
import Derived.Test.YtpehceccnjdfeaaD4
import Derived.Deep.RegionWith
namespace Go.Proofs.Ytpehceccnjdfeaa
open Go.RowKit

/-- What a pane is cut into. -/
def leafCut (kind size : Int) (before : Bool) (id W H p : Int) : R :=
  let a := sizedF W H p kind (ext kind W H - 1 - splitN (ext kind W H) size)
  let b := sizedF W H id kind (splitN (ext kind W H) size)
  if before then pairF kind b a else pairF kind a b

mutual
/-- The tree in which the pane is cut. -/
def R.cutR (pane kind size : Int) (before : Bool) (id : Int) : R → R
  | .mk k w h i kids => if k = 1 then if i = pane then leafCut kind size before id w h pane else .mk k w h i kids else .mk k w h i (cutRL pane kind size before id k [] kids)
def cutRL (pane kind size : Int) (before : Bool) (id : Int) (k : Int) (acc : List R) : List R → List R
  | [] => acc
  | r :: rs => cutRL pane kind size before id k (joinedF acc k (r.cutR pane kind size before id)) rs
end

theorem pair_nodes (S : Nat → Prop) (kind : Int) (x y : R) (before : Bool) (hx : x.kids = []) (hy : y.kids = []) (w : World) (hxk : x.kind ≠ kind) (hyk : y.kind ≠ kind) (hx1 : -1000000 ≤ x.w ∧ x.w ≤ 1000000) (hx2 : -1000000 ≤ x.h ∧ x.h ≤ 1000000) (hy1 : -1000000 ≤ y.w ∧ y.w ≤ 1000000) (hy2 : -1000000 ≤ y.h ∧ y.h ≤ 1000000) :
    Calls Try.prog 99 #[.int .i64 kind, .agg #[.int .i64 x.kind, .int .i64 x.w, .int .i64 x.h, .int .i64 x.id, .slice none 0 0], .agg #[.int .i64 y.kind, .int .i64 y.w, .int .i64 y.h, .int .i64 y.id, .slice none 0 0], .bool before] w fun e w' => NodePost w (fun _ => False) (if before then pairF kind y x else pairF kind x y) e w' := by
  have hl : ∀ z : R, z.kids = [] → NKS (fun _ => False) w (.slice none 0 0) z := by
    intro z hz
    cases z
    simp only [R.kids] at hz
    subst hz
    simp only [NKS]
    exact ⟨none, 0, rfl, Nat.le_refl _, Nat.zero_le _, fun h => absurd rfl h⟩
  cases before with
  | false => exact pair_false (fun _ => False) kind x y none none 0 0 0 0 w (Lib.hid (by rw [hx]; rfl)) (Lib.hid (by rw [hy]; rfl)) (Lib.hid (hl x hx)) (Lib.hid (hl y hy)) (Lib.hid fun b h => h.elim) (by omega) (by omega) hx1 hx2 hy1 hy2 (Lib.hid fun h => absurd h hxk) (Lib.hid fun h => absurd h hyk)
  | true => exact pair_true (fun _ => False) kind x y none none 0 0 0 0 w (Lib.hid (by rw [hx]; rfl)) (Lib.hid (by rw [hy]; rfl)) (Lib.hid (hl x hx)) (Lib.hid (hl y hy)) (Lib.hid fun b h => h.elim) (by omega) (by omega) hx1 hx2 hy1 hy2 (Lib.hid fun h => absurd h hxk) (Lib.hid fun h => absurd h hyk)

def Same (w w' : World) : Prop := w'.heap = w.heap ∧ Below w.heap.size w w'
theorem Same.refl (w : World) : Same w w := ⟨rfl, Below.refl _ _⟩
theorem Same.drew {w w' : World} (h : Same w w') : Same w w'.drew := ⟨h.1, h.2.drew⟩
theorem Same.drewN {w w' : World} (h : Same w w') (n : Nat) : Same w (w'.drewN n) := ⟨h.1, below_drewN h.2 n⟩

/-- The cells of a node's box. -/
def BoxAt (w : World) (b : Nat) (k W H i : Int) (s : Value) : Prop := w.heap[b]? = some (.cells #[.int .i64 k, .int .i64 W, .int .i64 H, .int .i64 i, s] 88 (0, 0))

set_option maxRecDepth 100000 in
set_option maxHeartbeats 2000000 in
theorem cut_leaf (S : Nat → Prop) (W H pane kind size : Int) (a0 : Option Addr) (c0 : Nat) (before : Bool) (id : Int) (w : World) (hk : kind = 2 ∨ kind = 3) (hW : 1 ≤ W ∧ W ≤ 1000) (hH : 1 ≤ H ∧ H ≤ 1000) :
    Calls Try.prog 84 #[.agg #[.int .i64 1, .int .i64 W, .int .i64 H, .int .i64 pane, .slice a0 0 c0], .int .i64 pane, .int .i64 kind, .int .i64 size, .bool before, .int .i64 id] w fun e w' => NodePost w S (leafCut kind size before id W H pane) e w' := by
  have hs : 1 ≤ ext kind W H ∧ ext kind W H ≤ 1000 := by unfold ext; split <;> omega
  have hn : -2 ≤ splitN (ext kind W H) size ∧ splitN (ext kind W H) size ≤ 1000 := by
    unfold splitN
    rw [Int.tdiv_eq_ediv_of_nonneg (by omega)]
    split <;> omega
  have hcase : (¬ 1 ≤ size ∧ (ext kind W H - 1).tdiv 2 = splitN (ext kind W H) size) ∨ (1 ≤ size ∧ min size (ext kind W H - 2) = splitN (ext kind W H) size) := by
    unfold splitN
    by_cases h : size < 1
    · rw [if_pos h]; exact .inl ⟨by omega, rfl⟩
    · rw [if_neg h]; exact .inr ⟨by omega, rfl⟩
  have hP := fun (V : World) => pair_nodes S kind (sizedF W H pane kind (ext kind W H - 1 - splitN (ext kind W H) size)) (sizedF W H id kind (splitN (ext kind W H) size)) before rfl rfl V (by simp only [sizedF, R.kind]; omega) (by simp only [sizedF, R.kind]; omega)
    (by simp only [sizedF, R.w]; split <;> omega) (by simp only [sizedF, R.h]; split <;> omega) (by simp only [sizedF, R.w]; split <;> omega) (by simp only [sizedF, R.h]; split <;> omega)
  have hS1 := fun (V : World) => sized_any 1 W H pane a0 0 c0 pane kind (ext kind W H - 1 - splitN (ext kind W H) size) V
  have hS2 := fun (V : World) => sized_any 1 W H pane a0 0 c0 id kind (splitN (ext kind W H) size) V
  have hX := fun (V : World) => rext_any 1 W H pane kind a0 0 c0 V
  unfold leafCut
  simp only []
  have HP : Hid (∀ V, Calls Try.prog 99 #[.int .i64 kind, .agg #[.int .i64 1, .int .i64 (sizedF W H pane kind (ext kind W H - 1 - splitN (ext kind W H) size)).w, .int .i64 (sizedF W H pane kind (ext kind W H - 1 - splitN (ext kind W H) size)).h, .int .i64 pane, .slice none 0 0], .agg #[.int .i64 1, .int .i64 (sizedF W H id kind (splitN (ext kind W H) size)).w, .int .i64 (sizedF W H id kind (splitN (ext kind W H) size)).h, .int .i64 id, .slice none 0 0], .bool before] V fun e w' => NodePost V (fun _ => False) (if before then pairF kind (sizedF W H id kind (splitN (ext kind W H) size)) (sizedF W H pane kind (ext kind W H - 1 - splitN (ext kind W H) size)) else pairF kind (sizedF W H pane kind (ext kind W H - 1 - splitN (ext kind W H) size)) (sizedF W H id kind (splitN (ext kind W H) size))) e w') := hP
  clear hP
  generalize (if before then pairF kind (sizedF W H id kind (splitN (ext kind W H) size)) (sizedF W H pane kind (ext kind W H - 1 - splitN (ext kind W H) size)) else pairF kind (sizedF W H pane kind (ext kind W H - 1 - splitN (ext kind W H) size)) (sizedF W H id kind (splitN (ext kind W H) size))) = res at *
  generalize (sizedF W H pane kind (ext kind W H - 1 - splitN (ext kind W H) size)).w = aw at *
  generalize (sizedF W H pane kind (ext kind W H - 1 - splitN (ext kind W H) size)).h = ah at *
  generalize (sizedF W H id kind (splitN (ext kind W H) size)).w = bw at *
  generalize (sizedF W H id kind (splitN (ext kind W H) size)).h = bh at *
  generalize splitN (ext kind W H) size = n at *
  generalize ext kind W H = s at *
  obtain ⟨s1, s2⟩ := hs
  obtain ⟨n1, n2⟩ := hn
  have HX := Lib.hid hX
  clear hX hW hH
  -- the chain of calls in the region that draws
  have HCH : Hid (∀ w1 : World, Below w.heap.size w w1 → BoxAt w1 w.heap.size 1 W H pane (.slice a0 0 c0) → BoxAt w1 (w.heap.size + 1) 0 0 0 0 (.slice none 0 0) → ∀ V, Same w1 V → Calls Try.prog 98 #[.agg #[.int .i64 1, .int .i64 W, .int .i64 H, .int .i64 pane, .slice a0 0 c0], .int .i64 pane, .int .i64 kind, .int .i64 (s - 1 - n)] V fun e w2 =>
      e = .returned (.agg #[.int .i64 1, .int .i64 aw, .int .i64 ah, .int .i64 pane, .slice none 0 0]) ∧ w2.cell? ⟨w.heap.size, 0, none⟩ = some (.int .i64 1) ∧ w2.cell? ⟨w.heap.size, 1, none⟩ = some (.int .i64 W) ∧ w2.cell? ⟨w.heap.size, 2, none⟩ = some (.int .i64 H) ∧ w2.cell? ⟨w.heap.size, 3, none⟩ = some (.int .i64 pane) ∧ w2.cell? ⟨w.heap.size, 4, none⟩ = some (.slice a0 0 c0) ∧
      Hid (∀ V2, Same w2 V2 → Calls Try.prog 98 #[.agg #[.int .i64 1, .int .i64 W, .int .i64 H, .int .i64 pane, .slice a0 0 c0], .int .i64 id, .int .i64 kind, .int .i64 n] V2 fun e w3 =>
        e = .returned (.agg #[.int .i64 1, .int .i64 bw, .int .i64 bh, .int .i64 id, .slice none 0 0]) ∧
        Hid (∀ V3, Same w3 V3 → Calls Try.prog 99 #[.int .i64 kind, .agg #[.int .i64 1, .int .i64 aw, .int .i64 ah, .int .i64 pane, .slice none 0 0], .agg #[.int .i64 1, .int .i64 bw, .int .i64 bh, .int .i64 id, .slice none 0 0], .bool before] V3 fun e w4 =>
          ∃ a c, e = .returned (.agg #[.int .i64 res.kind, .int .i64 res.w, .int .i64 res.h, .int .i64 res.id, .slice a res.kids.length c]) ∧ w4.cell? ⟨w.heap.size + 1, 0, none⟩ = some (.int .i64 0) ∧ w4.cell? ⟨w.heap.size + 1, 1, none⟩ = some (.int .i64 0) ∧ w4.cell? ⟨w.heap.size + 1, 2, none⟩ = some (.int .i64 0) ∧ w4.cell? ⟨w.heap.size + 1, 3, none⟩ = some (.int .i64 0) ∧ w4.cell? ⟨w.heap.size + 1, 4, none⟩ = some (.slice none 0 0) ∧
            w4.frozen? ⟨w.heap.size + 1, 0, none⟩ = false ∧ w4.frozen? ⟨w.heap.size + 1, 1, none⟩ = false ∧ w4.frozen? ⟨w.heap.size + 1, 2, none⟩ = false ∧ w4.frozen? ⟨w.heap.size + 1, 3, none⟩ = false ∧ w4.frozen? ⟨w.heap.size + 1, 4, none⟩ = false ∧
            Hid (BoxAt w4 (w.heap.size + 1) 0 0 0 0 (.slice none 0 0) ∧ Below w.heap.size w w4 ∧ NKS (fun b => w.heap.size + 2 ≤ b ∧ b < w4.heap.size) w4 (.slice a res.kids.length c) res)))) := by
    refine Lib.hid fun w1 hb1 hx0 hx1 V hV => (hS1 V).mono ?_
    rintro e w2 ⟨rfl, hb2⟩
    have hb12 : Below w1.heap.size w1 w2 := hV.2.trans (hb2.mono (by rw [hV.1]; exact Nat.le_refl _))
    have y0 := blk_below hx0 hb12
    have y1 := blk_below hx1 hb12
    refine ⟨rfl, blk_cell y0 0, blk_cell y0 1, blk_cell y0 2, blk_cell y0 3, blk_cell y0 4, Lib.hid fun V2 hV2 => (hS2 V2).mono ?_⟩
    rintro e w3 ⟨rfl, hb3⟩
    have hb23 : Below w2.heap.size w2 w3 := hV2.2.trans (hb3.mono (by rw [hV2.1]; exact Nat.le_refl _))
    have u1 := blk_below y1 hb23
    refine ⟨rfl, Lib.hid fun V3 hV3 => (HP.out V3).mono ?_⟩
    rintro e w4 ⟨a, c, rfl, hk4, hb4⟩
    have hb34 : Below w3.heap.size w3 w4 := hV3.2.trans (hb4.mono (by rw [hV3.1]; exact Nat.le_refl _))
    have t1 := blk_below u1 hb34
    have hz := blk_lt u1
    have hz3 : V3.heap.size = w3.heap.size := by rw [hV3.1]
    exact ⟨a, c, rfl, blk_cell t1 0, blk_cell t1 1, blk_cell t1 2, blk_cell t1 3, blk_cell t1 4, blk_free t1 0, blk_free t1 1, blk_free t1 2, blk_free t1 3, blk_free t1 4, Lib.hid ⟨t1, ((hb1.trans (hb12.mono hb1.size)).trans (hb23.mono (Nat.le_trans hb1.size hb12.size))).trans (hb34.mono (Nat.le_trans (Nat.le_trans hb1.size hb12.size) hb23.size)), hk4.upd (fun b hb => ⟨by
      rcases hb.1 with h | h
      · exact h.elim
      · omega, hb.2⟩) (fun _ _ => rfl)⟩⟩
  clear hS1 hS2 HP
  rcases hcase with ⟨c1, c2⟩ | ⟨c1, c2⟩
  all_goals
    go_enter Try.func84, Try.ntmps84
    go_wp2_with fail
    refine (HX.out _).mono ?_
    rintro e w1 ⟨rfl, hb1⟩
    have aa0 := blk_alloc (heap_alloc_new w (.cells #[.int .i64 1, .int .i64 W, .int .i64 H, .int .i64 pane, .slice a0 0 c0] 88)) (.cells #[.int .i64 0, .int .i64 0, .int .i64 0, .int .i64 0, .slice none 0 0] 88)
    have aa1 := heap_alloc_new (w.alloc (.cells #[.int .i64 1, .int .i64 W, .int .i64 H, .int .i64 pane, .slice a0 0 c0] 88)) (.cells #[.int .i64 0, .int .i64 0, .int .i64 0, .int .i64 0, .slice none 0 0] 88)
    rw [World.size_alloc] at aa1
    have hbw : Below w.heap.size w w1 := (((Below.refl w.heap.size w).alloc (Nat.le_refl _) (.cells #[.int .i64 1, .int .i64 W, .int .i64 H, .int .i64 pane, .slice a0 0 c0] 88)).alloc (by simp) (.cells #[.int .i64 0, .int .i64 0, .int .i64 0, .int .i64 0, .slice none 0 0] 88)).trans (hb1.mono (by simp; omega))
    have x0 := blk_below aa0 hb1
    have x1 := blk_below aa1 hb1
    have HC1 := Lib.hid (HCH.out w1 hbw x0 x1)
    have k0 : w1.cell? ⟨w.heap.size, 0, none⟩ = some (.int .i64 1) := blk_cell x0 0
    have k1 : w1.cell? ⟨w.heap.size, 1, none⟩ = some (.int .i64 W) := blk_cell x0 1
    have k2 : w1.cell? ⟨w.heap.size, 2, none⟩ = some (.int .i64 H) := blk_cell x0 2
    have k3 : w1.cell? ⟨w.heap.size, 3, none⟩ = some (.int .i64 pane) := blk_cell x0 3
    have k4 : w1.cell? ⟨w.heap.size, 4, none⟩ = some (.slice a0 0 c0) := blk_cell x0 4
    clear aa0 aa1 x0 x1 hbw hb1 HCH HX
    go_wp2_with fail
    clear c2 c1
    have q1 : IntKind.i64.wrap (s - 1) = s - 1 := by rw [IntKind.wrap_i64]; omega
    have q2 : IntKind.i64.wrap (s - 1 - n) = s - 1 - n := by rw [IntKind.wrap_i64]; omega
    go_region_with (first
      | (go_at_call 98; with_reducible refine (HC1.out _ ?_).mono ?_; (first | with_reducible exact Same.refl _ | with_reducible exact (Same.refl _).drew | with_reducible exact (Same.refl _).drewN _ | with_reducible exact ((Same.refl _).drew).drew); rintro e w2 ⟨rfl, r0, r1, r2, r3, r4, HC2⟩)
      | (go_at_call 98; with_reducible refine (HC2.out _ ?_).mono ?_; (first | with_reducible exact Same.refl _ | with_reducible exact (Same.refl _).drew | with_reducible exact (Same.refl _).drewN _ | with_reducible exact ((Same.refl _).drew).drew); rintro e w3 ⟨rfl, HC3⟩)
      | (go_at_call 99; with_reducible refine (HC3.out _ ?_).mono ?_; (first | with_reducible exact Same.refl _ | with_reducible exact (Same.refl _).drew | with_reducible exact (Same.refl _).drewN _ | with_reducible exact ((Same.refl _).drew).drew); rintro e w4 ⟨a, c, rfl, p0, p1, p2, p3, p4, f0, f1, f2, f3, f4, HE⟩))
    all_goals
      clear p0 p1 p2 p3 p4 f0 f1 f2 f3 f4 HC1 HC2 HC3
      go_wp2_with fail
      (try simp only [Exit.inBlock, Exit.then])
      have hs5 := set5 (w := w4) (b := w.heap.size + 1) (t := 88) HE.out.1 rfl (.int .i64 res.kind) (.int .i64 res.w) (.int .i64 res.h) (.int .i64 res.id) (.slice a res.kids.length c)
      refine bodyPost_ret (res_node1 rfl _ _ (w.heap.size + 1) _ rfl hs5.1 rfl) rfl ?_
      have hb4 := HE.out.2.1
      have hz := hs5.2.size
      exact ⟨a, c, rfl, HE.out.2.2.upd (fun b hb => ⟨.inr (by have := hb.1; omega), Nat.lt_of_lt_of_le hb.2 hz⟩) (fun b hb => hs5.2.block b hb.2 (by have := hb.1; omega)), hb4.trans (hs5.2.below _ hb4.size (fun k _ e => by omega))⟩

end Go.Proofs.Ytpehceccnjdfeaa
