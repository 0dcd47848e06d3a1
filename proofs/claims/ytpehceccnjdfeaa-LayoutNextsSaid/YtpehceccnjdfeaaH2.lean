/- Next: the program's and the reference's. -/
import Derived.Test.YtpehceccnjdfeaaH0
namespace Go.Proofs.Ytpehceccnjdfeaa
open Go.RowKit

/-- Two numbers. -/
def TwoPost (w : World) (a b : Int) (e : Ending) (w' : World) : Prop := e = .returned (.tuple #[.int .i64 a, .int .i64 b]) ∧ Below w.heap.size w w'

/-- Where Next comes to among m panes. -/
def nextK (i m : Nat) (n : Int) : Int := ((i : Int) + n.tmod m).tmod m
def nextAt (i m : Nat) (n : Int) : Nat := if nextK i m n < 0 then (nextK i m n + m).toNat else (nextK i m n).toNat

theorem tmod_bd (a : Int) {m : Nat} (hm : 0 < m) : -(m : Int) < a.tmod m ∧ a.tmod m < m := by
  have h1 := Int.tmod_lt_of_pos a (show (0 : Int) < m by omega)
  have h2 := Int.lt_tmod_of_pos a (show (0 : Int) < m by omega)
  exact ⟨h2, h1⟩

theorem nextK_bd (i : Nat) {m : Nat} (n : Int) (hm : 0 < m) : -(m : Int) < nextK i m n ∧ nextK i m n < m := tmod_bd _ hm

theorem next_idx (i : Nat) {m : Nat} (n : Int) (hm : 0 < m) : (nextK i m n + m).tmod m = (nextAt i m n : Int) ∧ nextAt i m n < m := by
  obtain ⟨h1, h2⟩ := nextK_bd i n hm
  unfold nextAt
  split
  · rename_i h
    rw [Int.tmod_eq_of_lt (by omega) (by omega)]
    omega
  · rename_i h
    rw [Int.tmod_eq_emod_of_nonneg (by omega), Int.add_emod_right, Int.emod_eq_of_lt (by omega) (by omega)]
    omega

def nextF (l : List Cl) (pane n : Int) : Int × Int :=
  match readF l with
  | none => (0, 40)
  | some r => if pane ∈ r.ids then (r.ids.getD (nextAt (r.ids.idxOf pane) r.ids.length n) 0, 0) else (0, 42)

theorem next_40 (v : Value) (l : List Cl) (pane n : Int) (w : World) (h : Reads w v l) (hr : readF l = none) : Calls Try.prog 29 #[v, .int .i64 pane, .int .i64 n] w fun e w' => TwoPost w 0 40 e w' := by
  have HREAD := read_any v l w h
  rw [hr] at HREAD
  have HREAD := Lib.hid HREAD; clear h hr
  go_enter Try.func29, Try.ntmps29
  go_wp2_with fail
  refine HREAD.out.mono ?_
  rintro e w1 ⟨hb1, rfl⟩
  have HB1 := Lib.hid hb1; clear hb1
  go_wp2_with fail
  go_ret2
  exact ⟨rfl, HB1.out⟩

set_option maxRecDepth 100000 in
theorem next_miss (v : Value) (l : List Cl) (pane n : Int) (w : World) (h : Reads w v l) (r : R) (ids : List Int) (hids : Hid (r.ids = ids)) (hr : readF l = some r) (hm : pane ∉ ids) : Calls Try.prog 29 #[v, .int .i64 pane, .int .i64 n] w fun e w' => TwoPost w 0 42 e w' := by
  have HREAD := read_any v l w h
  rw [hr] at HREAD
  have RI := read_is hr
  have hrl := RI.len
  have hrc := RI.cnt
  have hidl := ids_cnt r
  have HREAD := Lib.hid HREAD; have HRI := Lib.hid RI
  clear RI h hr
  go_enter Try.func29, Try.ntmps29
  go_wp2_with fail
  refine HREAD.out.mono ?_
  rintro e w1 ⟨hb1, a, rfl, hrep, hpos, _⟩
  obtain ⟨ty, hv, _⟩ := val_parts a
  have ho := order_any a r 0 0 w1 hrep hpos HRI.out.fed (by omega)
  rw [hids.out] at ho hidl
  rw [hv] at ho ⊢
  have HO := Lib.hid ho; have HB1 := Lib.hid hb1
  clear ho hb1 hrep hpos hv HREAD HRI
  go_wp2_with fail
  refine HO.out.mono ?_
  rintro e w2 ⟨v2, rfl, o2, hb2⟩
  have hi := index86 v2 ids pane w2 (reads1_of_owns o2) (by omega)
  have HB2 := Lib.hid (HB1.out.trans (hb2.mono HB1.out.size))
  clear hb2
  rw [ixF, if_neg hm] at hi
  have HI := Lib.hid hi; clear hi
  go_wp2_with fail
  refine HI.out.mono ?_
  rintro e w' ⟨rfl, rfl⟩
  go_wp2_with fail
  go_ret2
  exact ⟨rfl, HB2.out⟩

set_option maxRecDepth 100000 in
theorem next_hit (v : Value) (l : List Cl) (pane n p : Int) (w : World) (h : Reads w v l) (r : R) (ids : List Int) (hids : Hid (r.ids = ids)) (hr : readF l = some r) (hm : pane ∈ ids) (hp : Hid (ids[nextAt (ids.idxOf pane) ids.length n]? = some p)) : Calls Try.prog 29 #[v, .int .i64 pane, .int .i64 n] w fun e w' => TwoPost w p 0 e w' := by
  have HREAD := read_any v l w h
  rw [hr] at HREAD
  have RI := read_is hr
  have hrl := RI.len
  have hrc := RI.cnt
  have hidl := ids_cnt r
  have HREAD := Lib.hid HREAD; have HRI := Lib.hid RI
  clear RI h hr
  go_enter Try.func29, Try.ntmps29
  go_wp2_with fail
  refine HREAD.out.mono ?_
  rintro e w1 ⟨hb1, a, rfl, hrep, hpos, _⟩
  obtain ⟨ty, hv, _⟩ := val_parts a
  have ho := order_any a r 0 0 w1 hrep hpos HRI.out.fed (by omega)
  rw [hids.out] at ho hidl
  rw [hv] at ho ⊢
  have HO := Lib.hid ho; have HB1 := Lib.hid hb1
  clear ho hb1 hrep hpos hv HREAD HRI
  go_wp2_with fail
  refine HO.out.mono ?_
  rintro e w2 ⟨v2, rfl, o2, hb2⟩
  have hi := index86 v2 ids pane w2 (reads1_of_owns o2) (by omega)
  have HB2 := Lib.hid (HB1.out.trans (hb2.mono HB1.out.size))
  clear hb2
  rw [ixF, if_pos hm] at hi
  have hil := List.idxOf_lt_length_iff.2 hm
  obtain ⟨n1, n2⟩ := next_idx (ids.idxOf pane) n (show 0 < ids.length by omega)
  obtain ⟨b1, b2⟩ := nextK_bd (ids.idxOf pane) n (show 0 < ids.length by omega)
  obtain ⟨t1, t2⟩ := tmod_bd n (show 0 < ids.length by omega)
  obtain ⟨g, cap, rfl, _, _⟩ := o2.form (by omega)
  have c1 : w2.cell? ⟨g, nextAt (ids.idxOf pane) ids.length n, none⟩ = some (.int .i64 p) := by
    rw [o2.cellAt _ (by omega)]; simp [ints, hp.out]
  have HI := Lib.hid hi
  clear hi hp hids o2
  unfold nextK at n1 b1 b2
  generalize nextAt (ids.idxOf pane) ids.length n = k at *
  generalize ids.idxOf pane = i at *
  generalize ids.length = m at *
  have hm0 : ((m : Int) == 0) = false := by simp; omega
  have hm1 : ¬ (m : Int) = 0 := by omega
  go_wp2_with fail
  refine HI.out.mono ?_
  rintro e w' ⟨rfl, rfl⟩
  go_wp2_with fail
  go_ret2
  exact ⟨rfl, HB2.out⟩

theorem next_any (v : Value) (l : List Cl) (pane n : Int) (w : World) (h : Reads w v l) : Calls Try.prog 29 #[v, .int .i64 pane, .int .i64 n] w fun e w' => TwoPost w (nextF l pane n).1 (nextF l pane n).2 e w' := by
  unfold nextF
  cases hr : readF l with
  | none => exact next_40 v l pane n w h hr
  | some r =>
    simp only []
    by_cases hm : pane ∈ r.ids
    · rw [if_pos hm]
      obtain ⟨_, h2⟩ := next_idx (r.ids.idxOf pane) n (show 0 < r.ids.length by have := List.length_pos_of_mem hm; omega)
      refine next_hit v l pane n _ w h r r.ids rfl hr hm (Lib.hid ?_)
      rw [List.getD_eq_getElem?_getD, List.getElem?_eq_getElem h2]; rfl
    · rw [if_neg hm]; exact next_miss v l pane n w h r r.ids rfl hr hm

/-! ### The reference's -/
theorem rnext_40 (v : Value) (l : List Cl) (pane n : Int) (w : World) (h : Reads w v l) (hr : readF l = none) : Calls Try.prog 30 #[v, .int .i64 pane, .int .i64 n] w fun e w' => TwoPost w 0 40 e w' := by
  have HT := tree_any v l w h
  rw [hr] at HT
  have HT := Lib.hid HT; clear h hr
  go_enter Try.func30, Try.ntmps30
  go_wp2_with fail
  refine HT.out.mono ?_
  rintro e w1 ⟨hb1, rfl⟩
  have HB1 := Lib.hid hb1; clear hb1
  unfold zeroNode
  go_wp2_with fail
  go_ret2
  exact ⟨rfl, HB1.out.alloc HB1.out.size _⟩

set_option maxRecDepth 100000 in
theorem rnext_some (v : Value) (l : List Cl) (pane n a0 b0 : Int) (w : World) (h : Reads w v l) (r : R) (ids : List Int) (hids : Hid (r.ids = ids)) (hr : readF l = some r)
    (hres : Hid ((pane ∉ ids → a0 = 0 ∧ b0 = 42) ∧ (pane ∈ ids → ids[nextAt (ids.idxOf pane) ids.length n]? = some a0 ∧ b0 = 0))) : Calls Try.prog 30 #[v, .int .i64 pane, .int .i64 n] w fun e w' => TwoPost w a0 b0 e w' := by
  have HT := tree_any v l w h
  rw [hr] at HT
  have RI := read_is hr
  have hrl := RI.len
  have hrc := RI.cnt
  have hidl := ids_cnt r
  rw [hids.out] at hidl
  have HT := Lib.hid HT
  clear RI h hr
  go_enter Try.func30, Try.ntmps30
  go_wp2_with fail
  refine HT.out.mono ?_
  rintro e w1 ⟨hb1, sa, sc, rfl, hk⟩
  have hI : ∀ W, Below w1.heap.size w1 W → Calls Try.prog 79 #[.agg #[.int .i64 r.kind, .int .i64 r.w, .int .i64 r.h, .int .i64 r.id, .slice sa r.kids.length sc]] W fun e w' => IntsPost W ids e w' := by
    intro W hW
    have := rids_any _ r _ W (Nat.le_refl _) (NRep.below (v := .agg #[.int .i64 r.kind, .int .i64 r.w, .int .i64 r.h, .int .i64 r.id, .slice sa r.kids.length sc]) ⟨_, rfl, hk.nk⟩ hW) (by omega)
    rwa [hids.out] at this
  have HI := Lib.hid hI; have HB1 := Lib.hid hb1
  clear hI hb1 hk HT
  go_wp2_with fail
  refine (HI.out _ ((Below.refl _ _).alloc (Nat.le_refl _) _)).mono ?_
  rintro e w2 ⟨v2, rfl, o2, hb2⟩
  have HB2 := Lib.hid ((HB1.out.alloc HB1.out.size (.cells #[.int .i64 r.kind, .int .i64 r.w, .int .i64 r.h, .int .i64 r.id, .slice sa r.kids.length sc] 88)).trans (hb2.mono (by simp; have := HB1.out.size; omega)))
  obtain ⟨va, vc, hv2⟩ := own_slice o2
  subst hv2
  have HO2 := Lib.hid o2
  clear o2 hb2 HI HB1
  generalize hm : ids.length = m at *
  have HM := Lib.hid hm; clear hm
  go_wp2_with fail
  go_loop [11] (fun i => ∃ j : Nat, j ≤ m ∧ i = .int .i64 j ∧ Hid (pane ∉ ids.take j)) (fun i => m - (intOf i).toNat)
  case atStart => exact ⟨0, Nat.zero_le _, rfl, by show _ ∉ _; simp⟩
  case round =>
    obtain ⟨j, hj, rfl, hx⟩ := hrel
    by_cases hlt : j < m
    · obtain ⟨p, hp⟩ : ∃ p, ids[j]? = some p := ⟨ids[j]'(by rw [HM.out]; exact hlt), by simp⟩
      obtain ⟨g, cap, hg, _, _⟩ := HO2.out.form (by omega)
      simp only [Value.slice.injEq] at hg
      obtain ⟨rfl, _, rfl⟩ := hg
      have c1 : w2.cell? ⟨g, j, none⟩ = some (.int .i64 p) := by
        rw [HO2.out.cellAt j (by omega)]; simp [ints, hp]
      have HP := Lib.hid hp; clear hp
      by_cases he : p = pane
      · have he' : (p == pane) = true := by simpa using he
        have hmem : pane ∈ ids := he ▸ List.mem_of_getElem? HP.out
        have hix : ids.idxOf pane = j := by
          have := ix_at hx.out (he ▸ HP.out)
          unfold ixF at this
          rw [if_pos hmem] at this
          omega
        obtain ⟨ha, hb0⟩ := hres.out.2 hmem
        rw [hix] at ha
        obtain ⟨n1, n2⟩ := next_idx j n (show 0 < m by omega)
        obtain ⟨b1, b2⟩ := nextK_bd j n (show 0 < m by omega)
        obtain ⟨t1, t2⟩ := tmod_bd n (show 0 < m by omega)
        have c2 : w2.cell? ⟨g, nextAt j m n, none⟩ = some (.int .i64 a0) := by
          rw [HO2.out.cellAt _ (by omega)]; simp [ints, ha]
        have hm0 : ((m : Int) == 0) = false := by simp; omega
        have hm1 : ¬ (m : Int) = 0 := by omega
        have HB0 := Lib.hid hb0
        clear hix ha hb0 n1 he hmem
        by_cases hneg : nextK j m n < 0
        · have hat : ((nextAt j m n : Nat) : Int) = nextK j m n + m := by unfold nextAt; rw [if_pos hneg]; omega
          have hz : (nextK j m n + m).toNat = nextAt j m n := by omega
          generalize nextAt j m n = k at *
          unfold nextK at hneg b1 b2 hz
          clear hat
          go_wp2_with fail
          go_ret2
          exact ⟨by rw [HB0.out]; rfl, HB2.out⟩
        · have hz : (nextK j m n).toNat = nextAt j m n := by unfold nextAt; rw [if_neg hneg]
          generalize nextAt j m n = k at *
          unfold nextK at hneg b1 b2 hz
          go_wp2_with fail
          go_ret2
          exact ⟨by rw [HB0.out]; rfl, HB2.out⟩
      · have he' : (p == pane) = false := by simpa using he
        have HE := Lib.hid he; clear he
        go_wp2_with fail
        refine ⟨⟨j + 1, hlt, num_succ j, ?_⟩, meas_lt hlt⟩
        show _ ∉ _
        rw [take_snoc' HP.out]
        simp only [List.mem_append, List.mem_singleton, not_or]
        exact ⟨hx.out, fun e => HE.out e.symm⟩
    · have hmiss : pane ∉ ids := by
        have := hx.out
        rwa [List.take_of_length_le (by have := HM.out; omega)] at this
      obtain ⟨e1, e2⟩ := hres.out.1 hmiss
      have E1 := Lib.hid e1; have E2 := Lib.hid e2
      clear e1 e2 hmiss
      go_wp2_with fail
      go_ret2
      exact ⟨by rw [E1.out, E2.out]; rfl, HB2.out⟩

theorem rnext_any (v : Value) (l : List Cl) (pane n : Int) (w : World) (h : Reads w v l) : Calls Try.prog 30 #[v, .int .i64 pane, .int .i64 n] w fun e w' => TwoPost w (nextF l pane n).1 (nextF l pane n).2 e w' := by
  unfold nextF
  cases hr : readF l with
  | none => exact rnext_40 v l pane n w h hr
  | some r =>
    simp only []
    refine rnext_some v l pane n _ _ w h r r.ids rfl hr (Lib.hid ⟨fun hm => ?_, fun hm => ?_⟩)
    · rw [if_neg hm]; exact ⟨rfl, rfl⟩
    · rw [if_pos hm]
      obtain ⟨_, h2⟩ := next_idx (r.ids.idxOf pane) n (show 0 < r.ids.length by have := List.length_pos_of_mem hm; omega)
      exact ⟨by rw [List.getD_eq_getElem?_getD, List.getElem?_eq_getElem h2]; rfl, rfl⟩

end Go.Proofs.Ytpehceccnjdfeaa
