/- Split, whole. -/
import Derived.Test.YtpehceccnjdfeaaD8
import Derived.Test.YtpehceccnjdfeaaE0
namespace Go.Proofs.Ytpehceccnjdfeaa
open Go.RowKit

theorem split_40 (v : Value) (l : List Cl) (pane kind size : Int) (before : Bool) (id : Int) (w : World) (h : Reads w v l) (hr : readF l = none) :
    Calls Try.prog 26 #[v, .int .i64 pane, .int .i64 kind, .int .i64 size, .bool before, .int .i64 id] w fun e w' => ListPost w ([], 40) e w' := by
  have HREAD := read_any v l w h
  rw [hr] at HREAD
  have HREAD := Lib.hid HREAD; clear h hr
  go_enter Try.func26, Try.ntmps26
  go_wp2_with fail
  refine HREAD.out.mono ?_
  rintro e w1 ⟨hb1, rfl⟩
  have HB1 := Lib.hid hb1; clear hb1
  go_wp2_with fail
  go_ret2
  exact list_post_none HB1.out

theorem split_1 (v : Value) (l : List Cl) (pane kind size : Int) (before : Bool) (id : Int) (w : World) (h : Reads w v l) (r : R) (hr : readF l = some r) (hkb : kindB kind = false) :
    Calls Try.prog 26 #[v, .int .i64 pane, .int .i64 kind, .int .i64 size, .bool before, .int .i64 id] w fun e w' => ListPost w ([], 1) e w' := by
  have HREAD := read_any v l w h
  rw [hr] at HREAD
  have HREAD := Lib.hid HREAD; clear h hr
  go_enter Try.func26, Try.ntmps26
  go_wp2_with fail
  refine HREAD.out.mono ?_
  rintro e w1 ⟨hb1, a, rfl, _⟩
  obtain ⟨ty, hv, _⟩ := val_parts a
  rw [hv]
  have HB1 := Lib.hid hb1; clear hb1
  clear HREAD
  go_wp2_with (go_at_call 67; refine (kindOf_any _ _).mono ?_; rintro e w' ⟨rfl, rfl⟩)
  go_ret2
  exact list_post_none HB1.out

set_option maxRecDepth 100000 in
theorem split_42 (v : Value) (l : List Cl) (pane kind size : Int) (before : Bool) (id : Int) (w : World) (h : Reads w v l) (r : R) (hr : readF l = some r) (hkb : kindB kind = true) (hq : r.find pane = none) :
    Calls Try.prog 26 #[v, .int .i64 pane, .int .i64 kind, .int .i64 size, .bool before, .int .i64 id] w fun e w' => ListPost w ([], 42) e w' := by
  have HREAD := read_any v l w h
  rw [hr] at HREAD
  have RI := read_is hr
  have hdc := depth_cnt r
  have hrl := RI.len
  have hrc := RI.cnt
  have HREAD := Lib.hid HREAD; have HQ := Lib.hid hq
  clear RI hq h hr
  go_enter Try.func26, Try.ntmps26
  go_wp2_with fail
  refine HREAD.out.mono ?_
  rintro e w1 ⟨hb1, a, rfl, hrep, _⟩
  obtain ⟨ty, hv, _⟩ := val_parts a
  obtain ⟨hpath, _⟩ := path_any r.depth a r pane w1 (Nat.le_refl _) hrep (by omega) (by omega)
  rw [HQ.out] at hpath
  rw [hv] at hpath ⊢
  have HP := Lib.hid hpath; have HB1 := Lib.hid hb1
  clear hpath hb1 hrep hv HREAD
  have t4 := eql92n
  go_wp2_with (go_at_call 67; refine (kindOf_any _ _).mono ?_; rintro e w' ⟨rfl, rfl⟩)
  refine HP.out.mono ?_
  rintro e w2 ⟨hb2, rfl⟩
  have HB2 := Lib.hid hb2; clear hb2 HP
  go_wp2_with fail
  go_ret2
  exact list_post_none (HB1.out.trans (HB2.out.mono HB1.out.size))

set_option maxRecDepth 100000 in
theorem split_fresh (v : Value) (l : List Cl) (pane kind size : Int) (before : Bool) (id : Int) (w : World) (h : Reads w v l) (r : R) (hr : readF l = some r) (hkb : kindB kind = true) (q : List Nat) (hq : r.find pane = some q) (he : freshF r.ids id ≠ 0) :
    Calls Try.prog 26 #[v, .int .i64 pane, .int .i64 kind, .int .i64 size, .bool before, .int .i64 id] w fun e w' => ListPost w ([], freshF r.ids id) e w' := by
  have HREAD := read_any v l w h
  rw [hr] at HREAD
  have RI := read_is hr
  have hdc := depth_cnt r
  have hrl := RI.len
  have hrc := RI.cnt
  generalize hfx : freshF r.ids id = f at *
  have HREAD := Lib.hid HREAD; have HQ := Lib.hid hq; have HRI := Lib.hid RI; have HFX := Lib.hid hfx
  clear RI hq h hr hfx
  go_enter Try.func26, Try.ntmps26
  go_wp2_with fail
  refine HREAD.out.mono ?_
  rintro e w1 ⟨hb1, a, rfl, hrep, hpos, _⟩
  obtain ⟨ty, hv, _⟩ := val_parts a
  obtain ⟨hpath, _⟩ := path_any r.depth a r pane w1 (Nat.le_refl _) hrep (by omega) (by omega)
  rw [HQ.out] at hpath
  have HV := Lib.hid hv
  rw [hv] at hpath ⊢
  have HP := Lib.hid hpath; have HB1 := Lib.hid hb1; have HREP := Lib.hid hrep; have HPOS := Lib.hid hpos
  clear hpath hb1 hrep hpos hv HREAD
  have t4 := eql92s
  go_wp2_with (go_at_call 67; refine (kindOf_any _ _).mono ?_; rintro e w' ⟨rfl, rfl⟩)
  refine HP.out.mono ?_
  rintro e w2 ⟨hb2, v2, rfl, o2⟩
  obtain ⟨g, cap, rfl, hg, _⟩ := o2.form (way_pos _ _)
  have hrep2 := HREP.out.below hb2
  have hpos2 := HPOS.out.upd HREP.out (Upd.of_below (fun _ => False) hb2) (by simp)
  have hfr := fresh_any a r 0 0 id w2 hrep2 hpos2 HRI.out.fed (by omega)
  rw [HV.out, HFX.out] at hfr
  have HFR := Lib.hid hfr; have HB2 := Lib.hid hb2
  clear hfr hb2 hrep2 hpos2 o2 HP HV HREP HPOS HRI
  generalize (a.way q).length = m at *
  go_wp2_with fail
  refine HFR.out.mono ?_
  rintro e w3 ⟨rfl, hb3⟩
  have HB3 := Lib.hid hb3; clear hb3 HFR
  have hf0 : (f == 0) = false := by simpa using he
  go_wp2_with fail
  go_ret2
  exact list_post_none ((HB1.out.trans (HB2.out.mono HB1.out.size)).trans (HB3.out.mono (Nat.le_trans HB1.out.size HB2.out.size)))

set_option maxRecDepth 100000 in
set_option maxHeartbeats 1000000 in
theorem split_44 (v : Value) (l : List Cl) (pane kind size : Int) (before : Bool) (id : Int) (w : World) (h : Reads w v l) (r : R) (hr : readF l = some r) (hkb : kindB kind = true) (q : List Nat) (hq : r.find pane = some q) (he : freshF r.ids id = 0)
    (W H : Int) (hat : r.at q = some (.mk 1 W H pane [])) (hs3 : ext kind W H < 3) :
    Calls Try.prog 26 #[v, .int .i64 pane, .int .i64 kind, .int .i64 size, .bool before, .int .i64 id] w fun e w' => ListPost w ([], 44) e w' := by
  have HREAD := read_any v l w h
  rw [hr] at HREAD
  have RI := read_is hr
  have hdc := depth_cnt r
  have hrl := RI.len
  have hrc := RI.cnt
  generalize hsx : ext kind W H = s at *
  have HREAD := Lib.hid HREAD; have HRI := Lib.hid RI; have HQ := Lib.hid hq; have HE := Lib.hid he; have HAT := Lib.hid hat; have HSX := Lib.hid hsx
  clear RI hq he hat hsx h hr
  go_enter Try.func26, Try.ntmps26
  go_wp2_with fail
  refine HREAD.out.mono ?_
  rintro e w1 ⟨hb1, a, rfl, hrep, hpos, hnd, hge⟩
  obtain ⟨ty, hv, _⟩ := val_parts a
  obtain ⟨hpath, hpl⟩ := path_any r.depth a r pane w1 (Nat.le_refl _) hrep (by omega) (by omega)
  have hpl2 := hpl q HQ.out
  rw [HQ.out] at hpath
  have hval := hv
  rw [hv] at hpath ⊢
  have HPL := Lib.hid hpl2; clear hpl hpl2
  have HP := Lib.hid hpath; have HB1 := Lib.hid hb1; have HREP := Lib.hid hrep; have HPOS := Lib.hid hpos; have HV := Lib.hid hval
  clear hpath hb1 hrep hpos hnd hge hv hval
  have t4 := eql92s
  go_wp2_with (go_at_call 67; refine (kindOf_any _ _).mono ?_; rintro e w' ⟨rfl, rfl⟩)
  refine HP.out.mono ?_
  rintro e w2 ⟨hb2, v2, rfl, o2⟩
  obtain ⟨g, cap, rfl, hg, _⟩ := o2.form (way_pos _ _)
  have hrep2 := HREP.out.below hb2
  have hpos2 := HPOS.out.upd HREP.out (Upd.of_below (fun _ => False) hb2) (by simp)
  have hfr := fresh_any a r 0 0 id w2 hrep2 hpos2 HRI.out.fed (by omega)
  rw [HE.out, HV.out] at hfr
  obtain ⟨b, x, y, hab, _, hbk⟩ := leaf_at hrep2 HAT.out
  obtain ⟨hwl, hwlast⟩ := way_at q a _ hab
  have HFR := Lib.hid hfr; have HB2 := Lib.hid hb2; have HREP2 := Lib.hid hrep2; have HAB := Lib.hid hab; have HBK := Lib.hid hbk; have HO2 := Lib.hid o2; have HWL := Lib.hid hwlast
  clear hfr hb2 hrep2 hpos2 hab hbk o2 hwlast
  generalize hnl : (a.way q).length = m at *
  have HWLEN := Lib.hid hwl; clear hnl
  have hm1 : 1 ≤ m := by omega
  have hm2 : m ≤ 65 := by have := HPL.out; omega
  clear hwl
  go_wp2_with fail
  refine HFR.out.mono ?_
  rintro e w3 ⟨rfl, hb3⟩
  have hbk3 := blk_below HBK.out hb3
  have ho3 : w3.ownsRow w1.heap.size 90 1 (.slice (some ⟨g, 0, none⟩) m cap) m ((a.way q).map A.val) := ownsRow_upd HO2.out (Upd.of_below (fun _ => False) hb3) (by simp)
  have c1 : w3.cell? ⟨g, m - 1, none⟩ = some (.iface 95 (.pointer (some ⟨b, 0, none⟩))) := by
    rw [ho3.cellAt (m - 1) (by omega), List.getElem?_map, show m - 1 = q.length by have := HWLEN.out; omega, HWL.out]; rfl
  have hext : Calls Try.prog 70 #[.pointer (some ⟨b, 0, none⟩), .int .i64 kind] w3 fun e w' => e = .returned (.int .i64 s) ∧ w3 = w' := by
    have := extent_any b 0 W H kind w3 (blk_cell hbk3 2) (blk_cell hbk3 3)
    rw [HSX.out] at this
    exact this
  have HEXT := Lib.hid hext; have HB3 := Lib.hid hb3
  clear hext hb3 hbk3 ho3
  have t5 := ta_leaf
  have z1 : ((m : Int) - 1).toNat = m - 1 := by omega
  go_wp2_with (go_at_call 70; refine HEXT.out.mono ?_; rintro e w' ⟨rfl, rfl⟩)
  go_ret2
  exact list_post_none ((HB1.out.trans (HB2.out.mono HB1.out.size)).trans (HB3.out.mono (Nat.le_trans HB1.out.size HB2.out.size)))

theorem R.at_ok : ∀ (q : List Nat) (r s : R), r.at q = some s → r.ok → s.ok
  | [], r, s, h, hk => by rw [R.at_nil] at h; cases h; exact hk
  | i :: q, .mk k w h' id kids, s, h, hk => by
    simp only [R.at] at h
    cases hz : kids[i]? with
    | none => rw [hz] at h; cases h
    | some z =>
      rw [hz] at h
      simp only [R.ok] at hk
      have hm := List.mem_of_getElem? hz
      rcases hk.2 with ⟨_, rfl, _⟩ | ⟨_, _, _, hl, _⟩
      · cases hm
      · exact R.at_ok q z s h (okL_mem hl hm).2.2

theorem split_any (v : Value) (l : List Cl) (pane kind size : Int) (before : Bool) (id : Int) (w : World) (h : Reads w v l) :
    Calls Try.prog 26 #[v, .int .i64 pane, .int .i64 kind, .int .i64 size, .bool before, .int .i64 id] w fun e w' => ListPost w (splitF l pane kind size before id) e w' := by
  unfold splitF
  cases hr : readF l with
  | none => exact split_40 v l pane kind size before id w h hr
  | some r =>
    simp only []
    by_cases hk : kindB kind = false
    · rw [if_pos hk]; exact split_1 v l pane kind size before id w h r hr hk
    · rw [if_neg hk]
      have hk' : kindB kind = true := by simpa using hk
      cases hq : r.find pane with
      | none => exact split_42 v l pane kind size before id w h r hr hk' hq
      | some q =>
        simp only []
        by_cases he : freshF r.ids id ≠ 0
        · rw [if_pos he]; exact split_fresh v l pane kind size before id w h r hr hk' q hq he
        · rw [if_neg he]
          obtain ⟨W, H, kids, hat⟩ := find_at pane q r hq
          have hks : kids = [] := by
            have := R.at_ok q r _ hat ((readF_iff l r).1 hr).2.1
            simp only [R.ok] at this
            rcases this.2 with ⟨_, h, _⟩ | ⟨h, _⟩
            · exact h
            · omega
          subst hks
          rw [hat]
          show Calls Try.prog 26 _ w fun e w' => ListPost w (if ext kind W H < 3 then ([], 44) else ((r.cutAt kind (cutPair kind (splitN (ext kind W H) size) before id W H pane) W H q).lay 0 0 0, 0)) e w'
          by_cases hs : ext kind W H < 3
          · rw [if_pos hs]; exact split_44 v l pane kind size before id w h r hr hk' q hq (by omega) W H hat hs
          · rw [if_neg hs]; exact split_done v l pane kind size before id w h r hr hk' q hq (by omega) W H hat (by omega)

end Go.Proofs.Ytpehceccnjdfeaa
