/- The law's works. -/
import Derived.Test.YtpehceccnjdfeaaD9
import Derived.Test.YtpehceccnjdfeaaF2
namespace Go.Proofs.Ytpehceccnjdfeaa
open Go.RowKit
theorem read_one : readF [⟨0, 1, 0, 0, 9, 5, 7⟩] = some (.mk 1 9 5 7 []) := by
  simp [readF, sideB, scan, idB, growF, R.lay, layL]
theorem split_one : splitF [⟨0, 1, 0, 0, 9, 5, 7⟩] 7 2 0 false 8 = ([⟨0, 2, 0, 0, 9, 5, 0⟩, ⟨1, 1, 0, 0, 4, 5, 7⟩, ⟨1, 1, 5, 0, 4, 5, 8⟩], 0) := by
  unfold splitF
  rw [read_one]
  simp [kindB, R.find, freshF, R.ids, R.at, ext, R.w, R.h, R.cutAt, cutPair, splitN, R.setExt, R.lay, layL, idB]
attribute [local go_sem high] eq53
set_option maxRecDepth 100000 in
theorem works_any (w : World) : Calls Try.prog 23 #[] w fun e w' => e = .returned (.bool true) ∧ Below w.heap.size w w' := by
  have h1 := new_any 9 5 7 w
  rw [show newF 9 5 7 = ([⟨0, 1, 0, 0, 9, 5, 7⟩], 0) from rfl] at h1
  have H1 := Lib.hid h1; clear h1
  go_enter Try.func23, Try.ntmps23
  go_wp2_with fail
  refine H1.out.mono ?_
  rintro e w1 ⟨v1, rfl, o1, hb1⟩
  obtain ⟨g, cap, rfl, hg, _⟩ := World.ownsRow.form o1 (by simp)
  have hrd := o1.reads (by simp)
  have c0 : w1.cell? ⟨g, 0, none⟩ = some (.int .i64 0) := World.ownsRow.cellAt o1 0 (by simp [cvals, Cl.vals])
  have c1 : w1.cell? ⟨g, 1, none⟩ = some (.int .i64 1) := World.ownsRow.cellAt o1 1 (by simp [cvals, Cl.vals])
  have c2 : w1.cell? ⟨g, 2, none⟩ = some (.int .i64 0) := World.ownsRow.cellAt o1 2 (by simp [cvals, Cl.vals])
  have c3 : w1.cell? ⟨g, 3, none⟩ = some (.int .i64 0) := World.ownsRow.cellAt o1 3 (by simp [cvals, Cl.vals])
  have c4 : w1.cell? ⟨g, 4, none⟩ = some (.int .i64 9) := World.ownsRow.cellAt o1 4 (by simp [cvals, Cl.vals])
  have c5 : w1.cell? ⟨g, 5, none⟩ = some (.int .i64 5) := World.ownsRow.cellAt o1 5 (by simp [cvals, Cl.vals])
  have c6 : w1.cell? ⟨g, 6, none⟩ = some (.int .i64 7) := World.ownsRow.cellAt o1 6 (by simp [cvals, Cl.vals])
  have k1 := check_any _ _ w1 hrd
  rw [read_one] at k1
  have K1 : Hid (Calls Try.prog 39 #[.slice (some ⟨g, 0, none⟩) 1 cap] w1 fun e w' => e = .returned (.int .i64 0) ∧ Below w1.heap.size w1 w') := k1
  have K2 : Hid (∀ W, Calls Try.prog 39 #[.slice none 0 0] W fun e w' => e = .returned (.int .i64 40) ∧ Below W.heap.size W w') := fun W => check_any _ [] W ⟨none, 0, rfl, by simp, ⟨by simp [maxLen], by simp⟩, by simp⟩
  have HRD := Lib.hid hrd; have HO := Lib.hid o1; have HB := Lib.hid hb1
  clear hrd o1 hb1 k1
  simp only [List.length_singleton]
  go_wp2_with fail
  refine K1.out.mono ?_
  rintro e w2 ⟨rfl, hb2⟩
  have HB2 := Lib.hid hb2; clear hb2
  go_wp2_with fail
  refine (K2.out w2).mono ?_
  rintro e w3 ⟨rfl, hb3⟩
  have hs := split_any _ _ 7 2 0 false 8 w3 ((HRD.out.below HB2.out).below hb3)
  rw [split_one] at hs
  have HS : Hid (Calls Try.prog 26 #[.slice (some ⟨g, 0, none⟩) 1 cap, .int .i64 7, .int .i64 2, .int .i64 0, .bool false, .int .i64 8] w3 fun e w' => ListPost w3 ([⟨0, 2, 0, 0, 9, 5, 0⟩, ⟨1, 1, 0, 0, 4, 5, 7⟩, ⟨1, 1, 5, 0, 4, 5, 8⟩], 0) e w') := hs
  have HB3 := Lib.hid hb3; clear hb3 hs c0 c1 c2 c3 c4 c5 c6
  go_wp2_with fail
  refine HS.out.mono ?_
  rintro e w4 ⟨v4, rfl, o4, hb4⟩
  obtain ⟨g4, cap4, rfl, hg4, _⟩ := World.ownsRow.form o4 (by simp)
  have ce : ∀ i, i < 21 → w4.cell? ⟨g4, i, none⟩ = (cvals [⟨0, 2, 0, 0, 9, 5, 0⟩, ⟨1, 1, 0, 0, 4, 5, 7⟩, ⟨1, 1, 5, 0, 4, 5, 8⟩])[i]? := fun i hi => World.ownsRow.cellAt o4 i (by simp [cvals, Cl.vals]; omega)
  have c0 := ce 0 (by omega); have c1 := ce 1 (by omega); have c2 := ce 2 (by omega); have c3 := ce 3 (by omega); have c4 := ce 4 (by omega); have c5 := ce 5 (by omega); have c6 := ce 6 (by omega)
  have d0 := ce 7 (by omega); have d1 := ce 8 (by omega); have d2 := ce 9 (by omega); have d3 := ce 10 (by omega); have d4 := ce 11 (by omega); have d5 := ce 12 (by omega); have d6 := ce 13 (by omega)
  have e0 := ce 14 (by omega); have e1 := ce 15 (by omega); have e2 := ce 16 (by omega); have e3 := ce 17 (by omega); have e4 := ce 18 (by omega); have e5 := ce 19 (by omega); have e6 := ce 20 (by omega)
  simp only [cvals, Cl.vals, List.flatMap_cons, List.flatMap_nil, List.cons_append, List.nil_append, List.append_nil, List.getElem?_cons_zero, List.getElem?_cons_succ] at c0 c1 c2 c3 c4 c5 c6 d0 d1 d2 d3 d4 d5 d6 e0 e1 e2 e3 e4 e5 e6
  have HB4 := Lib.hid hb4; clear hb4 o4 ce
  simp only [List.length_cons, List.length_nil, Nat.zero_add, Nat.reduceAdd]
  go_wp2_with fail
  go_ret
  exact ⟨by simp [ceq], ((HB.out.trans (HB2.out.mono HB.out.size)).trans (HB3.out.mono (Nat.le_trans HB.out.size HB2.out.size))).trans (HB4.out.mono (Nat.le_trans (Nat.le_trans HB.out.size HB2.out.size) HB3.out.size))⟩

end Go.Proofs.Ytpehceccnjdfeaa
