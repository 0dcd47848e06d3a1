/- The reference's Tree. -/
import Derived.Test.YtpehceccnjdfeaaF9
import Derived.Test.YtpehceccnjdfeaaF7
import Derived.Test.YtpehceccnjdfeaaD4
namespace Go.Proofs.Ytpehceccnjdfeaa
open Go.RowKit

def zeroNode : Value := .agg #[.int .i64 0, .int .i64 0, .int .i64 0, .int .i64 0, .slice none 0 0]

def TreePost (w : World) (res : Option R) (e : Ending) (w' : World) : Prop :=
  Below w.heap.size w w' ∧ match res with
  | none => e = .returned (.tuple #[zeroNode, .bool false])
  | some r => ∃ a c, e = .returned (.tuple #[.agg #[.int .i64 r.kind, .int .i64 r.w, .int .i64 r.h, .int .i64 r.id, .slice a r.kids.length c], .bool true]) ∧ NKS (fun b => w.heap.size ≤ b ∧ b < w'.heap.size) w' (.slice a r.kids.length c) r

/-- A way out without a tree. -/
theorem tree_out {w wr w9 : World} (hb : Below w.heap.size w wr) (hu : Upd (fun k => k = w.heap.size) wr w9) : TreePost w none (.returned (.tuple #[zeroNode, .bool false])) w9 :=
  ⟨hb.trans (hu.below _ hb.size (fun k _ e => by omega)), rfl⟩

theorem tree_nil (a : Option Addr) (cap : Nat) (w : World) : Calls Try.prog 78 #[.slice a 0 cap] w fun e w' => TreePost w none e w' := by
  go_enter Try.func78, Try.ntmps78
  go_wp2_with fail
  have hbl := heap_alloc_new w (.cells #[.int .i64 0, .int .i64 0, .int .i64 0, .int .i64 0, .slice none 0 0] 88)
  (try simp only [Exit.inBlock, Exit.then])
  refine bodyPost_ret (res_node2 rfl _ _ w.heap.size _ rfl hbl rfl) rfl ?_
  exact tree_out ((Below.refl _ _).alloc (Nat.le_refl _) _) (Upd.refl _ _)

/-- A list that the reference does not look at: too long, or its first cell is not as it must be. -/
theorem tree_head (b off m cap : Nat) (c : Cl) (w : World) (hm : 0 < m) (hc : cap ≤ maxLen) (hmc : m ≤ cap) (c0 : w.cell? ⟨b, off, none⟩ = some (.int .i64 c.d)) (c4 : w.cell? ⟨b, off + 4, none⟩ = some (.int .i64 c.w)) (c5 : w.cell? ⟨b, off + 5, none⟩ = some (.int .i64 c.h))
    (h : 64 < m ∨ (¬ 64 < m ∧ (¬ c.d = 0 ∨ (c.d = 0 ∧ (1000 < c.w ∨ (¬ 1000 < c.w ∧ 1000 < c.h)))))) : Calls Try.prog 78 #[.slice (some ⟨b, off, none⟩) m cap] w fun e w' => TreePost w none e w' := by
  have hb : b < w.heap.size := World.block_lt_of_cell? w _ c0
  have z1 : ((m : Int) == 0) = false := by simp; omega
  have z2 : (0 : Int) < m := by omega
  unfold maxLen at hc
  rcases h with h | ⟨h, h1 | ⟨h1, h2 | ⟨h2, h3⟩⟩⟩
  · have h' : (64 : Int) < m := by omega
    go_enter Try.func78, Try.ntmps78
    go_wp2_with fail
    have hbl := heap_alloc_new w (.cells #[.int .i64 0, .int .i64 0, .int .i64 0, .int .i64 0, .slice none 0 0] 88)
    (try simp only [Exit.inBlock, Exit.then])
    refine bodyPost_ret (res_node2 rfl _ _ w.heap.size _ rfl hbl rfl) rfl ?_
    exact tree_out ((Below.refl _ _).alloc (Nat.le_refl _) _) (Upd.refl _ _)
  all_goals
    have h' : ¬ (64 : Int) < m := by omega
    try (rw [h1] at c0; clear h1)
    go_enter Try.func78, Try.ntmps78
    go_wp2_with fail
    have hbl := heap_alloc_new w (.cells #[.int .i64 0, .int .i64 0, .int .i64 0, .int .i64 0, .slice none 0 0] 88)
    (try simp only [Exit.inBlock, Exit.then])
    refine bodyPost_ret (res_node2 rfl _ _ w.heap.size _ rfl hbl rfl) rfl ?_
    exact tree_out ((Below.refl _ _).alloc (Nat.le_refl _) _) (Upd.refl _ _)

/-- The steps up to a place. -/
def stepsTo (l : List Cl) (i : Nat) : Prop := ∀ (k : Nat) (a b : Cl), k + 1 < i → l[k]? = some a → l[k + 1]? = some b → 1 ≤ b.d ∧ b.d ≤ a.d + 1

theorem steps_bound {l : List Cl} {c : Cl} (h0 : l[0]? = some c) (hd : c.d = 0) {i : Nat} (h : stepsTo l i) : ∀ (k : Nat) (a : Cl), k < i → l[k]? = some a → 0 ≤ a.d ∧ a.d ≤ k := by
  intro k
  induction k with
  | zero =>
    intro a _ ha
    rw [h0] at ha
    cases ha
    omega
  | succ k ih =>
    intro a hk ha
    have hlt := (List.getElem?_eq_some_iff.1 ha).1
    obtain ⟨p, hp⟩ : ∃ p, l[k]? = some p := ⟨l[k]'(by omega), by simp⟩
    have h1 := ih p (by omega) hp
    have h2 := h k p a hk hp ha
    omega

mutual
theorem ok_bd : ∀ (r : R), r.ok → r.Bd 1 1000
  | .mk k w h i kids, hk => by
    simp only [R.ok] at hk
    simp only [R.Bd]
    refine ⟨hk.1.1, hk.1.2.1, hk.1.2.2.1, hk.1.2.2.2, ?_⟩
    rcases hk.2 with ⟨_, rfl, _⟩ | ⟨_, _, _, hl, _⟩
    · trivial
    · exact okL_bd kids (fun r hr => (okL_mem hl hr).2.2)
theorem okL_bd : ∀ (l : List R), (∀ r ∈ l, r.ok) → BdL 1 1000 l
  | [], _ => trivial
  | r :: rs, h => ⟨ok_bd r (h r (by simp)), okL_bd rs (fun q hq => h q (by simp [hq]))⟩
end

attribute [local go_sem high] eq53
set_option maxRecDepth 100000 in
set_option maxHeartbeats 4000000 in
theorem tree_main (b off m cap : Nat) (l : List Cl) (c : Cl) (w : World) (hm : Hid (l.length = m)) (hm0 : 0 < m) (hm64 : m ≤ 64) (hcap : m ≤ cap) (hcap2 : cap ≤ maxLen) (hc : Hid (l[0]? = some c)) (hd : Hid (c.d = 0)) (hw : ¬ 1000 < c.w) (hh : ¬ 1000 < c.h)
    (hcells : Hid (∀ (i : Nat) (e : Cl), l[i]? = some e → ∀ j, j < 7 → w.cell? ⟨b, off + i * 7 + j, none⟩ = e.vals[j]?)) (hb : b < w.heap.size) (hho : Hid (headOk l)) :
    Calls Try.prog 78 #[.slice (some ⟨b, off, none⟩) m cap] w fun e w' => TreePost w (treeF l) e w' := by
  have hno : Hid (¬ stepsOk l → treeF l = none) := Lib.hid fun h => by
    unfold treeF; rw [if_neg (fun hx => h hx.2)]
  have g := hcells.out 0 c hc.out
  have a0 : w.cell? ⟨b, off, none⟩ = some (.int .i64 c.d) := by simpa [Cl.vals] using g 0 (by omega)
  have a4 : w.cell? ⟨b, off + 4, none⟩ = some (.int .i64 c.w) := by simpa [Cl.vals] using g 4 (by omega)
  have a5 : w.cell? ⟨b, off + 5, none⟩ = some (.int .i64 c.h) := by simpa [Cl.vals] using g 5 (by omega)
  clear g
  have z1 : ((m : Int) == 0) = false := by simp; omega
  have z2 : ¬ (64 : Int) < m := by omega
  have z3 : (c.d == 0) = true := by have := hd.out; simpa using this
  unfold maxLen at hcap2
  go_enter Try.func78, Try.ntmps78
  go_wp2_with fail
  clear a0 a4 a5
  go_loopw [4] (fun iv wr => ∃ j : Nat, 1 ≤ j ∧ j ≤ m ∧ iv = .int .i64 j ∧ Hid (stepsTo l j) ∧ Hid (∃ q, wr = (w.alloc (.cells #[.int .i64 0, .int .i64 0, .int .i64 0, .int .i64 0, .slice none 0 0] 88)).drewN q)) (fun iv _ => m - (intOf iv).toNat)
  case atStart => exact ⟨1, Nat.le_refl _, hm0, rfl, fun k a b hk => by omega, 0, rfl⟩
  case round =>
    obtain ⟨j, hj1, hj, rfl, hst, hq⟩ := hrel
    obtain ⟨q, rfl⟩ := hq.out
    by_cases hlt : j < m
    · obtain ⟨e, he⟩ : ∃ e, l[j]? = some e := ⟨l[j]'(by rw [hm.out]; exact hlt), by simp⟩
      obtain ⟨p, hp⟩ : ∃ e, l[j - 1]? = some e := ⟨l[j - 1]'(by rw [hm.out]; omega), by simp⟩
      obtain ⟨p1, p2⟩ := steps_bound hc.out hd.out hst.out (j - 1) p (by omega) hp
      have e0 : w.cell? ⟨b, off + j * 7, none⟩ = some (.int .i64 e.d) := by simpa [Cl.vals] using hcells.out j e he 0 (by omega)
      have q0 : w.cell? ⟨b, off + (j - 1) * 7, none⟩ = some (.int .i64 p.d) := by simpa [Cl.vals] using hcells.out (j - 1) p hp 0 (by omega)
      have p3 : p.d ≤ 64 := by omega
      have w6 : IntKind.i64.wrap (p.d + 1) = p.d + 1 := by rw [IntKind.wrap_i64]; omega
      clear p2
      have w1 : IntKind.i64.wrap ((j : Int) - 1) = (j : Int) - 1 := by rw [IntKind.wrap_i64]; omega
      have w2 : ((j : Int) - 1).toNat = j - 1 := by omega
      have w3 : 0 ≤ (j : Int) - 1 := by omega
      have w5 : (1 : Int) ≤ j := by omega
      have w4 : (j : Int) - 1 < m := by omega
      have hbl : (w.alloc (.cells #[.int .i64 0, .int .i64 0, .int .i64 0, .int .i64 0, .slice none 0 0] 88)).heap[w.heap.size]? = some (.cells #[.int .i64 0, .int .i64 0, .int .i64 0, .int .i64 0, .slice none 0 0] 88 (0, 0)) := heap_alloc_new w _
      have HE := Lib.hid he; have HP := Lib.hid hp; have HBL := Lib.hid hbl
      clear he hp hbl
      by_cases h1 : e.d < 1
      · have hbad : ¬ (1 ≤ e.d ∧ e.d ≤ p.d + 1) := by omega
        go_wp2_with fail
        go_quiet (fail)
        go_wp2_with fail
        (try simp only [Exit.inBlock, Exit.then])
        have hs5 := fun q => set5 (w := (w.alloc (.cells #[.int .i64 0, .int .i64 0, .int .i64 0, .int .i64 0, .slice none 0 0] 88)).drewN q) (b := w.heap.size) (t := 88) HBL.out rfl (.int .i64 0) (.int .i64 0) (.int .i64 0) (.int .i64 0) (.slice none 0 0)
        refine bodyPost_ret (res_node2 rfl _ _ w.heap.size _ rfl (hs5 _).1 rfl) rfl ?_
        rw [hno.out (fun hs => hbad ((stepsOk_iff l).1 hs (j - 1) p e HP.out (by rw [show j - 1 + 1 = j by omega]; exact HE.out)))]
        exact tree_out (below_drewN ((Below.refl _ _).alloc (Nat.le_refl _) _) _) (hs5 _).2
      · by_cases h2 : p.d + 1 < e.d
        · have hbad : ¬ (1 ≤ e.d ∧ e.d ≤ p.d + 1) := by omega
          go_wp2_with fail
          go_quiet (fail)
          go_wp2_with fail
          (try simp only [Exit.inBlock, Exit.then])
          have hs5 := fun q => set5 (w := (w.alloc (.cells #[.int .i64 0, .int .i64 0, .int .i64 0, .int .i64 0, .slice none 0 0] 88)).drewN q) (b := w.heap.size) (t := 88) HBL.out rfl (.int .i64 0) (.int .i64 0) (.int .i64 0) (.int .i64 0) (.slice none 0 0)
          refine bodyPost_ret (res_node2 rfl _ _ w.heap.size _ rfl (hs5 _).1 rfl) rfl ?_
          rw [hno.out (fun hs => hbad ((stepsOk_iff l).1 hs (j - 1) p e HP.out (by rw [show j - 1 + 1 = j by omega]; exact HE.out)))]
          exact tree_out (below_drewN ((Below.refl _ _).alloc (Nat.le_refl _) _) _) (hs5 _).2
        · go_wp2_with fail
          go_quiet (fail)
          go_wp2_with fail
          refine ⟨⟨j + 1, by omega, hlt, num_succ j, ?_, _, rfl⟩, meas_lt hlt⟩
          intro k a b' hk ha hb'
          by_cases hkj : k + 1 < j
          · exact hst.out k a b' hkj ha hb'
          · obtain rfl : k = j - 1 := by omega
            rw [show j - 1 + 1 = j by omega] at hb'
            obtain rfl : p = a := Option.some.inj (HP.out.symm.trans ha)
            obtain rfl : e = b' := Option.some.inj (HE.out.symm.trans hb')
            omega
    · have hsteps : stepsOk l := (stepsOk_iff l).2 fun k a b' ha hb' => hst.out k a b' (by have := (List.getElem?_eq_some_iff.1 hb').1; have := hm.out; omega) ha hb'
      obtain ⟨r, hg, hcn, hrw, hrh⟩ := gr_whole hho.out hsteps
      have hT0 : ¬ (r.sz ∧ r.ids.Nodup ∧ r.ids.length ≤ 32 ∧ r.lay 0 0 0 = l) → treeF l = none := fun h => by
        unfold treeF; rw [if_pos ⟨hho.out, hsteps⟩, hg]; simp only []; rw [if_neg h]
      have hT1 : r.sz ∧ r.ids.Nodup ∧ r.ids.length ≤ 32 ∧ r.lay 0 0 0 = l → treeF l = some r := fun h => by
        unfold treeF; rw [if_pos ⟨hho.out, hsteps⟩, hg]; simp only []; rw [if_pos h]
      have hB1 : Below w.heap.size w ((w.alloc (.cells #[.int .i64 0, .int .i64 0, .int .i64 0, .int .i64 0, .slice none 0 0] 88)).drewN q) := below_drewN ((Below.refl _ _).alloc (Nat.le_refl _) _) q
      have hX1 : ((w.alloc (.cells #[.int .i64 0, .int .i64 0, .int .i64 0, .int .i64 0, .slice none 0 0] 88)).drewN q).heap[w.heap.size]? = some (.cells #[.int .i64 0, .int .i64 0, .int .i64 0, .int .i64 0, .slice none 0 0] 88 (0, 0)) := heap_alloc_new w _
      generalize (w.alloc (.cells #[.int .i64 0, .int .i64 0, .int .i64 0, .int .i64 0, .slice none 0 0] 88)).drewN q = W1 at *
      have hml := hm.out
      have hC1 : Calls Try.prog 124 #[.slice (some ⟨b, off, none⟩) m cap, .int .i64 0] W1 fun e w' => GrPost W1 r m e w' :=
        gr_any (2 * l.length) (2 * l.length) l 0 m r (.slice (some ⟨b, off, none⟩) m cap) W1 (Nat.le_refl _) ⟨some ⟨b, off, none⟩, cap, by rw [hml], by rw [hml]; exact hcap, ⟨by unfold maxLen; omega, by omega⟩, fun _ => ⟨b, off, rfl, fun i e hi' q hq => (hB1.cell (p := ⟨b, off + i * 7 + q, none⟩) hb).trans (hcells.out i e hi' q hq)⟩⟩ (by omega) (by omega) (by rw [List.drop_zero, List.drop_eq_nil_of_le (by omega)]; exact hg)
      have hcn2 : r.cnt ≤ 64 := by omega
      have hdc := depth_cnt r
      have x1 := blk_lt hX1
      have HC1 := Lib.hid hC1; have HT0 := Lib.hid hT0; have HT1 := Lib.hid hT1; have HB1 := Lib.hid hB1; have HX1 := Lib.hid hX1; have HCN := Lib.hid hcn
      clear hC1 hT0 hT1 hB1 hX1 hg hsteps hst hcn hml hq
      go_wp2_with fail
      refine HC1.out.mono ?_
      rintro e2 w2 ⟨sa, sc, rfl, hk2, hb2⟩
      have hrep : NRep w2 (.agg #[.int .i64 r.kind, .int .i64 r.w, .int .i64 r.h, .int .i64 r.id, .slice sa r.kids.length sc]) r := ⟨_, rfl, hk2.nk⟩
      have hI : ∀ W, Below w2.heap.size w2 W → Calls Try.prog 79 #[.agg #[.int .i64 r.kind, .int .i64 r.w, .int .i64 r.h, .int .i64 r.id, .slice sa r.kids.length sc]] W fun e w' => IntsPost W r.ids e w' := fun W hW => rids_any _ r _ W (Nat.le_refl _) (hrep.below hW) (by omega)
      have hZ : ∀ W, Below w2.heap.size w2 W → Calls Try.prog 125 #[.agg #[.int .i64 r.kind, .int .i64 r.w, .int .i64 r.h, .int .i64 r.id, .slice sa r.kids.length sc]] W fun e w' => SzPost W r.sz e w' := fun W hW => rsz_any _ r _ W (Nat.le_refl _) (hrep.below hW) (by omega) hrw hrh
      have hLs : r.sz → ∀ W, Below w2.heap.size w2 W → Calls Try.prog 65 #[.agg #[.int .i64 r.kind, .int .i64 r.w, .int .i64 r.h, .int .i64 r.id, .slice sa r.kids.length sc]] W fun e w' => CellsPost W (r.lay 0 0 0) e w' := fun hs W hW => rlist_any r _ W (hrep.below hW) (by omega) ((ok_bd r ((sz_ok r).1 ⟨hs, hrw, hrh⟩)).mono (by omega) (by omega))
      have hB2 := HB1.out.trans (hb2.mono HB1.out.size)
      have hX2 := blk_below HX1.out hb2
      have s2 := hb2.size
      have hidl : r.ids.length ≤ 64 := Nat.le_trans (ids_cnt r) hcn2
      have HI := Lib.hid hI; have HZ := Lib.hid hZ; have HLS := Lib.hid hLs; have HK2 := Lib.hid hk2; have HB2 := Lib.hid hB2; have HX2 := Lib.hid hX2; have HB22 := Lib.hid hb2
      clear hI hZ hLs hk2 hB2 hX2 hb2 hrep HC1 HB1 HX1
      go_wp2_with fail
      have hx3 := heap_alloc_new w2 (.cells #[.int .i64 r.kind, .int .i64 r.w, .int .i64 r.h, .int .i64 r.id, .slice sa r.kids.length sc] 88)
      have hb3 : Below w2.heap.size w2 (w2.alloc (.cells #[.int .i64 r.kind, .int .i64 r.w, .int .i64 r.h, .int .i64 r.id, .slice sa r.kids.length sc] 88)) := (Below.refl _ _).alloc (Nat.le_refl _) _
      generalize (w2.alloc (.cells #[.int .i64 r.kind, .int .i64 r.w, .int .i64 r.h, .int .i64 r.id, .slice sa r.kids.length sc] 88)) = w3 at *
      refine (HI.out _ hb3).mono ?_
      rintro e4 w4 ⟨v7, rfl, o7, hb4⟩
      have hb24 : Below w2.heap.size w2 w4 := hb3.trans (hb4.mono hb3.size)
      have hx4 := blk_below hx3 hb4
      have k0 : w4.cell? ⟨w2.heap.size, 0, none⟩ = some (.int .i64 r.kind) := blk_cell hx4 0
      have k1 : w4.cell? ⟨w2.heap.size, 1, none⟩ = some (.int .i64 r.w) := blk_cell hx4 1
      have k2 : w4.cell? ⟨w2.heap.size, 2, none⟩ = some (.int .i64 r.h) := blk_cell hx4 2
      have k3 : w4.cell? ⟨w2.heap.size, 3, none⟩ = some (.int .i64 r.id) := blk_cell hx4 3
      have k4 : w4.cell? ⟨w2.heap.size, 4, none⟩ = some (.slice sa r.kids.length sc) := blk_cell hx4 4
      have HX4 := Lib.hid hx4; have HB24 := Lib.hid hb24; have HO7 := Lib.hid o7
      clear hx3 hb3 hb4 hx4 hb24 o7
      go_wp2_with fail
      refine (HZ.out _ HB24.out).mono ?_
      rintro e5 w5 ⟨bz, rfl, hbz, hb5⟩
      have hb25 : Below w2.heap.size w2 w5 := HB24.out.trans (hb5.mono HB24.out.size)
      have hx5 := blk_below HX4.out hb5
      have o5 := (reads1_of_owns HO7.out).below hb5
      have HBEL := Lib.hid (HB2.out.trans (hb25.mono HB2.out.size))
      have HBOX := Lib.hid (blk_below HX2.out hb25)
      have p0 : w5.cell? ⟨w.heap.size, 0, none⟩ = some (.int .i64 0) := blk_cell HBOX.out 0
      have p1 : w5.cell? ⟨w.heap.size, 1, none⟩ = some (.int .i64 0) := blk_cell HBOX.out 1
      have p2 : w5.cell? ⟨w.heap.size, 2, none⟩ = some (.int .i64 0) := blk_cell HBOX.out 2
      have p3 : w5.cell? ⟨w.heap.size, 3, none⟩ = some (.int .i64 0) := blk_cell HBOX.out 3
      have p4 : w5.cell? ⟨w.heap.size, 4, none⟩ = some (.slice none 0 0) := blk_cell HBOX.out 4
      have f0 := blk_free HBOX.out 0
      have f1 := blk_free HBOX.out 1
      have f2 := blk_free HBOX.out 2
      have f3 := blk_free HBOX.out 3
      have f4 := blk_free HBOX.out 4
      have HBZ := Lib.hid hbz; have HB25 := Lib.hid hb25; have HX5 := Lib.hid hx5; have HO5 := Lib.hid o5
      clear hbz hb25 hx5 o5 hb5 k0 k1 k2 k3 k4 HX4 HB24
      cases bz with
      | false =>
        go_wp2_with fail
        (try simp only [Exit.inBlock, Exit.then])
        have hs5 := fun (W : World) (hW : W.heap = w5.heap) => set5 (w := W) (b := w.heap.size) (t := 88) (cs := #[.int .i64 0, .int .i64 0, .int .i64 0, .int .i64 0, .slice none 0 0]) (by rw [hW]; exact HBOX.out) rfl (.int .i64 0) (.int .i64 0) (.int .i64 0) (.int .i64 0) (.slice none 0 0)
        refine bodyPost_ret (res_node2 rfl _ _ w.heap.size _ rfl (hs5 _ rfl).1 rfl) rfl ?_
        rw [HT0.out (fun h => by have := HBZ.out.2 h.1; cases this)]
        exact tree_out HBEL.out (hs5 _ rfl).2
      | true =>
        have hsz := HBZ.out.1 rfl
        have ht := twice_any v7 r.ids w5 HO5.out (by omega)
        have HT := Lib.hid ht; have HSZ := Lib.hid hsz; clear ht hsz
        obtain ⟨va, vc, hv7⟩ := own_slice HO7.out
        subst hv7
        clear HZ HBZ HI
        by_cases hnd : r.ids.Nodup
        · have hnd' : (!decide r.ids.Nodup) = false := by simp [hnd]
          rw [hnd'] at HT
          have HND := Lib.hid hnd; clear hnd hnd'
          by_cases h32 : 32 < r.ids.length
          · have h32' : (32 : Int) < (r.ids.length : Int) := by omega
            generalize r.ids = ids at *
            go_wp2_with fail
            refine HT.out.mono ?_
            rintro e6 w6 ⟨rfl, q6, rfl⟩
            go_wp2_with fail
            (try simp only [Exit.inBlock, Exit.then])
            have hs5 := fun (W : World) (hW : W.heap = w5.heap) => set5 (w := W) (b := w.heap.size) (t := 88) (cs := #[.int .i64 0, .int .i64 0, .int .i64 0, .int .i64 0, .slice none 0 0]) (by rw [hW]; exact HBOX.out) rfl (.int .i64 0) (.int .i64 0) (.int .i64 0) (.int .i64 0) (.slice none 0 0)
            refine bodyPost_ret (res_node2 rfl _ _ w.heap.size _ rfl (hs5 _ rfl).1 rfl) rfl ?_
            rw [HT0.out (fun h => by have := h.2.2.1; omega)]
            exact tree_out (below_drewN HBEL.out q6) (hs5 (w5.drewN q6) rfl).2
          · have h32' : ¬ (32 : Int) < (r.ids.length : Int) := by omega
            have H32 := Lib.hid h32; clear h32
            generalize r.ids = ids at *
            go_wp2_with fail
            refine HT.out.mono ?_
            rintro e6 w6 ⟨rfl, q6, rfl⟩
            have hLL := HLS.out HSZ.out (w5.drewN q6) (below_drewN HB25.out q6)
            have hll : (r.lay 0 0 0).length = m := by rw [R.lay_length]; have := HCN.out; have := hm.out; omega
            generalize r.lay 0 0 0 = ly at *
            have HLL := Lib.hid hLL; have HLY := Lib.hid hll; clear hLL hll HLS
            have k0 : w5.cell? ⟨w2.heap.size, 0, none⟩ = some (.int .i64 r.kind) := blk_cell HX5.out 0
            have k1 : w5.cell? ⟨w2.heap.size, 1, none⟩ = some (.int .i64 r.w) := blk_cell HX5.out 1
            have k2 : w5.cell? ⟨w2.heap.size, 2, none⟩ = some (.int .i64 r.h) := blk_cell HX5.out 2
            have k3 : w5.cell? ⟨w2.heap.size, 3, none⟩ = some (.int .i64 r.id) := blk_cell HX5.out 3
            have k4 : w5.cell? ⟨w2.heap.size, 4, none⟩ = some (.slice sa r.kids.length sc) := blk_cell HX5.out 4
            go_wp2_with fail
            refine HLL.out.mono ?_
            rintro e7 w7 ⟨v8, rfl, o8, hb7⟩
            have hb57 : Below w5.heap.size w5 w7 := (below_drewN (Below.refl _ w5) q6).trans hb7
            obtain ⟨g8, cap8, rfl, hg8, _⟩ := World.ownsRow.form o8 (by have := HLY.out; omega)
            have hc8 : ∀ (i : Nat) (e : Cl), ly[i]? = some e → ∀ j, j < 7 → w7.cell? ⟨g8, i * 7 + j, none⟩ = e.vals[j]? := fun i e hi' j hj' => by
              rw [World.ownsRow.cellAt o8 (i * 7 + j) (by have := (List.getElem?_eq_some_iff.1 hi').1; omega)]
              exact cvals_at ly i e j hi' hj'
            have hcl : ∀ (i : Nat) (e : Cl), l[i]? = some e → ∀ j, j < 7 → w7.cell? ⟨b, off + i * 7 + j, none⟩ = e.vals[j]? := fun i e hi' j hj' =>
              ((HBEL.out.trans (hb57.mono HBEL.out.size)).cell (p := ⟨b, off + i * 7 + j, none⟩) hb).trans (hcells.out i e hi' j hj')
            rw [HLY.out]
            have HC8 := Lib.hid hc8; have HCL := Lib.hid hcl; have HB57 := Lib.hid hb57
            have HBOX7 := Lib.hid (blk_below HBOX.out hb57); have HX7 := Lib.hid (blk_below HX5.out hb57)
            clear k0 k1 k2 k3 k4 hc8 hcl hb57 o8 hb7 p0 p1 p2 p3 p4 f0 f1 f2 f3 f4 HX5 HBOX HLL HT
            have p0 : w7.cell? ⟨w.heap.size, 0, none⟩ = some (.int .i64 0) := blk_cell HBOX7.out 0
            have p1 : w7.cell? ⟨w.heap.size, 1, none⟩ = some (.int .i64 0) := blk_cell HBOX7.out 1
            have p2 : w7.cell? ⟨w.heap.size, 2, none⟩ = some (.int .i64 0) := blk_cell HBOX7.out 2
            have p3 : w7.cell? ⟨w.heap.size, 3, none⟩ = some (.int .i64 0) := blk_cell HBOX7.out 3
            have p4 : w7.cell? ⟨w.heap.size, 4, none⟩ = some (.slice none 0 0) := blk_cell HBOX7.out 4
            have f0 := blk_free HBOX7.out 0
            have f1 := blk_free HBOX7.out 1
            have f2 := blk_free HBOX7.out 2
            have f3 := blk_free HBOX7.out 3
            have f4 := blk_free HBOX7.out 4
            have HBEL7 := Lib.hid (HBEL.out.trans (HB57.out.mono HBEL.out.size))
            go_wp2_with fail
            go_loopw [9] (fun iv wr => ∃ j : Nat, j ≤ m ∧ iv = .int .i64 j ∧ Hid (ly.take j = l.take j) ∧ Hid (∃ q, wr = w7.drewN q)) (fun iv _ => m - (intOf iv).toNat)
            case atStart => exact ⟨0, Nat.zero_le _, rfl, by show _ = _; simp, 0, rfl⟩
            case round =>
              obtain ⟨j, hj, rfl, htk, hq⟩ := hrel
              obtain ⟨q, rfl⟩ := hq.out
              by_cases hlt : j < m
              · obtain ⟨x, hx⟩ : ∃ x, ly[j]? = some x := ⟨ly[j]'(by rw [HLY.out]; exact hlt), by simp⟩
                obtain ⟨y, hy⟩ : ∃ y, l[j]? = some y := ⟨l[j]'(by rw [hm.out]; exact hlt), by simp⟩
                have g := HC8.out j x hx
                have a0 := g 0 (by omega); have a1 := g 1 (by omega); have a2 := g 2 (by omega); have a3 := g 3 (by omega); have a4 := g 4 (by omega); have a5 := g 5 (by omega); have a6 := g 6 (by omega)
                clear g
                have g := HCL.out j y hy
                have e0 := g 0 (by omega); have e1 := g 1 (by omega); have e2 := g 2 (by omega); have e3 := g 3 (by omega); have e4 := g 4 (by omega); have e5 := g 5 (by omega); have e6 := g 6 (by omega)
                clear g
                simp only [Cl.vals, List.getElem?_cons_zero, List.getElem?_cons_succ, Nat.add_zero] at a0 a1 a2 a3 a4 a5 a6 e0 e1 e2 e3 e4 e5 e6
                have HXX := Lib.hid hx; have HYY := Lib.hid hy; clear hx hy
                go_wp2_with fail
                go_quiet (fail)
                go_wp2_with fail
                · have hne : x ≠ y := ceq_false (by simpa using ‹(!ceq _ _) = true›)
                  (try simp only [Exit.inBlock, Exit.then])
                  have hs5 := fun q => set5 (w := w7.drewN q) (b := w.heap.size) (t := 88) (cs := #[.int .i64 0, .int .i64 0, .int .i64 0, .int .i64 0, .slice none 0 0]) HBOX7.out rfl (.int .i64 0) (.int .i64 0) (.int .i64 0) (.int .i64 0) (.slice none 0 0)
                  refine bodyPost_ret (res_node2 rfl _ _ w.heap.size _ rfl (hs5 _).1 rfl) rfl ?_
                  rw [HT0.out (fun h => hne (by have e1 := HXX.out; rw [h.2.2.2] at e1; exact Option.some.inj (e1.symm.trans HYY.out)))]
                  exact tree_out (below_drewN HBEL7.out _) (hs5 _).2
                · have he : x = y := ceq_true (by simpa using ‹(!ceq _ _) = false›)
                  refine ⟨⟨j + 1, hlt, num_succ j, ?_, ⟨_, rfl⟩⟩, meas_lt hlt⟩
                  show _ = _
                  rw [take_snoc' HXX.out, take_snoc' HYY.out, htk.out, he]
              · have k0 : w7.cell? ⟨w2.heap.size, 0, none⟩ = some (.int .i64 r.kind) := blk_cell HX7.out 0
                have k1 : w7.cell? ⟨w2.heap.size, 1, none⟩ = some (.int .i64 r.w) := blk_cell HX7.out 1
                have k2 : w7.cell? ⟨w2.heap.size, 2, none⟩ = some (.int .i64 r.h) := blk_cell HX7.out 2
                have k3 : w7.cell? ⟨w2.heap.size, 3, none⟩ = some (.int .i64 r.id) := blk_cell HX7.out 3
                have k4 : w7.cell? ⟨w2.heap.size, 4, none⟩ = some (.slice sa r.kids.length sc) := blk_cell HX7.out 4
                go_wp2_with fail
                (try simp only [Exit.inBlock, Exit.then])
                have hs5 := fun q => set5 (w := w7.drewN q) (b := w.heap.size) (t := 88) (cs := #[.int .i64 0, .int .i64 0, .int .i64 0, .int .i64 0, .slice none 0 0]) HBOX7.out rfl (.int .i64 r.kind) (.int .i64 r.w) (.int .i64 r.h) (.int .i64 r.id) (.slice sa r.kids.length sc)
                refine bodyPost_ret (res_node2 rfl _ _ w.heap.size _ rfl (hs5 _).1 rfl) rfl ?_
                have hll : ly = l := by
                  have := htk.out
                  rwa [List.take_of_length_le (by have := HLY.out; omega), List.take_of_length_le (by have := hm.out; omega)] at this
                rw [HT1.out ⟨HSZ.out, HND.out, by omega, hll⟩]
                have hu := (hs5 q).2
                refine ⟨(below_drewN HBEL7.out q).trans (hu.below _ (below_drewN HBEL7.out q).size (fun k _ e => by omega)), sa, sc, rfl, HK2.out.upd (fun b hb => ⟨by have := hb.1; omega, ?_⟩) (fun b hb => ?_)⟩
                · have h1 := hb.2
                  have h0 := hb.1
                  have h2 := HB25.out.size
                  have h3 := HB57.out.size
                  refine (hu.block b (show b < w7.heap.size by omega) (by omega)).trans ?_
                  show w7.heap[b]? = _
                  rw [HB57.out.block b (by omega), HB25.out.block b hb.2]
                · have h1 := hb.2
                  have h2 := HB25.out.size
                  have h3 := HB57.out.size
                  exact Nat.lt_of_lt_of_le (show b < w7.heap.size by omega) hu.size
        · have hnd' : (!decide r.ids.Nodup) = true := by simp [hnd]
          rw [hnd'] at HT
          have HND := Lib.hid hnd; clear hnd hnd'
          generalize r.ids = ids at *
          go_wp2_with fail
          refine HT.out.mono ?_
          rintro e6 w6 ⟨rfl, q6, rfl⟩
          go_wp2_with fail
          (try simp only [Exit.inBlock, Exit.then])
          have hs5 := fun (W : World) (hW : W.heap = w5.heap) => set5 (w := W) (b := w.heap.size) (t := 88) (cs := #[.int .i64 0, .int .i64 0, .int .i64 0, .int .i64 0, .slice none 0 0]) (by rw [hW]; exact HBOX.out) rfl (.int .i64 0) (.int .i64 0) (.int .i64 0) (.int .i64 0) (.slice none 0 0)
          refine bodyPost_ret (res_node2 rfl _ _ w.heap.size _ rfl (hs5 _ rfl).1 rfl) rfl ?_
          rw [HT0.out (fun h => HND.out h.2.1)]
          exact tree_out (below_drewN HBEL.out q6) (hs5 (w5.drewN q6) rfl).2

/-- Tree: what the program reads. -/
theorem tree_any (v : Value) (l : List Cl) (w : World) (h : Reads w v l) : Calls Try.prog 78 #[v] w fun e w' => TreePost w (readF l) e w' := by
  rw [← tree_read]
  obtain ⟨a, cap, rfl, h1, h2, h3⟩ := h
  cases l with
  | nil =>
    have : treeF [] = none := by unfold treeF; rw [if_neg (fun h => h.1.1 rfl)]
    rw [this]; exact tree_nil a cap w
  | cons c t =>
    obtain ⟨b, off, rfl, hc⟩ := h3 (by simp)
    have c0 : w.cell? ⟨b, off, none⟩ = some (.int .i64 c.d) := by simpa [Cl.vals] using hc 0 c rfl 0 (by omega)
    have c4 : w.cell? ⟨b, off + 4, none⟩ = some (.int .i64 c.w) := by simpa [Cl.vals] using hc 0 c rfl 4 (by omega)
    have c5 : w.cell? ⟨b, off + 5, none⟩ = some (.int .i64 c.h) := by simpa [Cl.vals] using hc 0 c rfl 5 (by omega)
    by_cases hh : 64 < (c :: t).length ∨ (¬ 64 < (c :: t).length ∧ (¬ c.d = 0 ∨ (c.d = 0 ∧ (1000 < c.w ∨ (¬ 1000 < c.w ∧ 1000 < c.h)))))
    · have : treeF (c :: t) = none := by
        unfold treeF
        rw [if_neg]
        rintro ⟨⟨_, hl, c', t', e, hd, hw, hx⟩, _⟩
        simp only [List.cons.injEq] at e
        obtain ⟨rfl, rfl⟩ := e
        omega
      rw [this]
      exact tree_head b off _ cap c w (by simp) h2.1 h1 c0 c4 c5 hh
    · have hho : headOk (c :: t) := ⟨by simp, by omega, c, t, rfl, by omega, by omega, by omega⟩
      exact tree_main b off _ cap (c :: t) c w rfl (by simp) (by omega) h1 h2.1 rfl (Lib.hid (by omega)) (by omega) (by omega) hc (World.block_lt_of_cell? w _ c0) hho

end Go.Proofs.Ytpehceccnjdfeaa
