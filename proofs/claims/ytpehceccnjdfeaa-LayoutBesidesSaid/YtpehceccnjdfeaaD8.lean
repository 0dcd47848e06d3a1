/- Split: the walk. -/
import Derived.Test.YtpehceccnjdfeaaD7
import Derived.Deep.RegionWith
namespace Go.Proofs.Ytpehceccnjdfeaa
open Go.RowKit

theorem list_post_none {w w' : World} {n : Int} (hb : Below w.heap.size w w') : ListPost w ([], n) (.returned (.tuple #[.slice none 0 0, .int .i64 n])) w' := ⟨_, rfl, Owned.nil _ _, hb⟩

/-- What the way's last cell is. -/
theorem leaf_at {w : World} {a : A} {r : R} {q : List Nat} {W H p : Int} {ks : List R} (hr : Rep w a r) (hs : r.at q = some (.mk 1 W H p ks)) :
    ∃ b x y, a.at q = some (.leaf b) ∧ ks = [] ∧ w.heap[b]? = some (.cells #[.int .i64 x, .int .i64 y, .int .i64 W, .int .i64 H, .int .i64 p] 100 (0, 0)) := by
  obtain ⟨x1, hx1, hx2⟩ := Rep.at q a r _ hr hs
  cases x1 with
  | leaf b =>
    simp only [Rep] at hx2
    obtain ⟨_, rfl, x, y, hb⟩ := hx2
    exact ⟨b, x, y, hx1, rfl, hb⟩
  | split b ar off cap ks =>
    simp only [Rep] at hx2
    omega

/-- The new cell, in its block. -/
theorem box_world (w6 : World) (ps : List A) (C : Array Value) (hl : ps.length = 2) : (((w6.alloc (.cells (ps.map A.val).toArray 90)).alloc (.cells C 105)).drew).heap[w6.heap.size + 1]? = some (.cells C 105 (0, 0)) ∧
    Row (((w6.alloc (.cells (ps.map A.val).toArray 90)).alloc (.cells C 105)).drew) w6.heap.size 0 2 (ps.map A.val) ∧
    Upd (fun _ => False) w6 (((w6.alloc (.cells (ps.map A.val).toArray 90)).alloc (.cells C 105)).drew) := by
  have p7 := blk_alloc (heap_alloc_new w6 (.cells (ps.map A.val).toArray 90)) (.cells C 105)
  have c7 := heap_alloc_new (w6.alloc (.cells (ps.map A.val).toArray 90)) (.cells C 105)
  simp only [World.size_alloc] at c7
  refine ⟨c7, Row.of (cs := (ps.map A.val).toArray) p7 (by simp [hl]) (by simp [hl]) (fun j v hv => by rw [Nat.zero_add]; simpa using hv), (((Upd.refl _ w6).alloc _).alloc _).drew⟩

theorem snoc_cases (q : List Nat) : q = [] ∨ ∃ q' i, q = q' ++ [i] := by
  rcases List.eq_nil_or_concat q with h | ⟨l, b, h⟩
  · exact .inl h
  · exact .inr ⟨l, b, by rw [h, List.concat_eq_append]⟩

theorem R.at_cnt : ∀ (q : List Nat) (r s : R), r.at q = some s → s.cnt ≤ r.cnt
  | [], r, s, h => by rw [R.at_nil] at h; cases h; exact Nat.le_refl _
  | i :: q, .mk k w h' id kids, s, h => by
    simp only [R.at] at h
    cases hz : kids[i]? with
    | none => rw [hz] at h; cases h
    | some z =>
      rw [hz] at h
      have h1 := R.at_cnt q z s h
      have h2 := cnt_mem (List.mem_of_getElem? hz)
      simp only [R.cnt]; omega

def EndPost (w : World) (res : List Cl) (e : Ending) (w' : World) : Prop := ∃ v, e = .returned v ∧ Owned w' w.heap.size v res ∧ Below w.heap.size w w'

theorem end_write {w w3 w9 : World} {S : Nat → Prop} {a a' : A} {r' : R} (hb : Below w.heap.size w w3) (hk : ∀ k ∈ a.blks, w.heap.size ≤ k) (hu : Upd S w3 w9) (hS : ∀ k, k < w3.heap.size → S k → k ∈ a.blks)
    (hk' : ∀ k ∈ a'.blks, k ∈ a.blks ∨ w3.heap.size ≤ k) (hr : Rep w9 a' r') (hn : a'.blks.Nodup) (hc : r'.cnt ≤ 200) (hbd : r'.Bd 0 1000) : Calls Try.prog 77 #[a'.val] w9 fun e w' => EndPost w (r'.lay 0 0 0) e w' :=
  (write_any a' r' w9 hr hn hc hbd).mono fun _ _ h => fin_list hb hk hu hS hk' h

set_option maxRecDepth 100000 in
set_option maxHeartbeats 4000000 in
theorem split_done (v : Value) (l : List Cl) (pane kind size : Int) (before : Bool) (id : Int) (w : World) (h : Reads w v l) (r : R) (hr : readF l = some r) (hkb : kindB kind = true) (q : List Nat) (hq : r.find pane = some q) (he : freshF r.ids id = 0)
    (W H : Int) (hat : r.at q = some (.mk 1 W H pane [])) (hs3 : 3 ≤ ext kind W H) :
    Calls Try.prog 26 #[v, .int .i64 pane, .int .i64 kind, .int .i64 size, .bool before, .int .i64 id] w fun e w' => ListPost w ((r.cutAt kind (cutPair kind (splitN (ext kind W H) size) before id W H pane) W H q).lay 0 0 0, 0) e w' := by
  have HREAD := read_any v l w h
  rw [hr] at HREAD
  have RI := read_is hr
  have hk23 := (kindB_iff kind).1 hkb
  have hdc := depth_cnt r
  have hrl := RI.len
  have hrc := RI.cnt
  have hWH := R.at_bd q r _ hat RI.bd
  simp only [R.Bd] at hWH
  have hs1000 : ext kind W H ≤ 1000 := by unfold ext; split <;> omega
  have hN := splitN_bd (size := size) hs3
  have hok := cutAt_ok kind _ W H (by omega) (by omega) (cutPair_bd (before := before) (id := id) (p := pane) hk23 (by omega) (by omega) hN).1 (cutPair_bd (before := before) (id := id) (p := pane) hk23 (by omega) (by omega) hN).2 q r (RI.bd.mono (by omega) (by omega))
  have hNeq : splitN (ext kind W H) size = if size < 1 then (ext kind W H - 1).tdiv 2 else min size (ext kind W H - 2) := rfl
  generalize hn : splitN (ext kind W H) size = n at *
  generalize hsx : ext kind W H = s at *
  have HREAD := Lib.hid HREAD; have HRI := Lib.hid RI; have HK := Lib.hid hk23; have HQ := Lib.hid hq; have HE := Lib.hid he; have HAT := Lib.hid hat; have HSX := Lib.hid hsx; have HOK := Lib.hid hok; have HN := Lib.hid hNeq
  clear RI hk23 hq he hat hsx hok hNeq h hr hWH hn
  go_enter Try.func26, Try.ntmps26
  go_wp2_with fail
  refine HREAD.out.mono ?_
  rintro e w1 ⟨hb1, a, rfl, hrep, hpos, hnd, hge⟩
  obtain ⟨ty, hv, _⟩ := val_parts a
  obtain ⟨hpath, hpl⟩ := path_any r.depth a r pane w1 (Nat.le_refl _) hrep (by omega) (by omega)
  have hpl2 := hpl q HQ.out
  rw [HQ.out] at hpath
  have hval := hv
  rw [hv] at hpath ⊢
  have HPL := Lib.hid hpl2; clear hpl hpl2
  have HP := Lib.hid hpath; have HB1 := Lib.hid hb1; have HREP := Lib.hid hrep; have HPOS := Lib.hid hpos; have HND := Lib.hid hnd; have HGE := Lib.hid hge; have HV := Lib.hid hval
  clear hpath hb1 hrep hpos hnd hge hv hval
  have t4 := eql92s
  go_wp2_with (go_at_call 67; refine (kindOf_any _ _).mono ?_; rintro e w' ⟨rfl, rfl⟩)
  refine HP.out.mono ?_
  rintro e w2 ⟨hb2, v2, rfl, o2⟩
  obtain ⟨g, cap, rfl, hg, _⟩ := o2.form (way_pos _ _)
  have hrep2 := HREP.out.below hb2
  have hpos2 := HPOS.out.upd HREP.out (Upd.of_below (fun _ => False) hb2) (by simp)
  have hfr := fresh_any a r 0 0 id w2 hrep2 hpos2 HRI.out.fed (by omega)
  rw [HE.out, HV.out] at hfr
  obtain ⟨b, x, y, hab, _, hbk⟩ := leaf_at hrep2 HAT.out
  obtain ⟨hwl, hwlast⟩ := way_at q a _ hab
  have HFR := Lib.hid hfr; have HB2 := Lib.hid hb2; have HREP2 := Lib.hid hrep2; have HAB := Lib.hid hab; have HBK := Lib.hid hbk; have HO2 := Lib.hid o2; have HWL := Lib.hid hwlast
  clear hfr hb2 hrep2 hpos2 hab hbk o2 hwlast
  generalize hnl : (a.way q).length = m at *
  have HM := Lib.hid hnl; have HWLEN := Lib.hid hwl; clear hnl
  have hm1 : 1 ≤ m := by omega
  have hm2 : m ≤ 65 := by have := HPL.out; omega
  clear hwl
  go_wp2_with fail
  refine HFR.out.mono ?_
  rintro e w3 ⟨rfl, hb3⟩
  have hrep3 := HREP2.out.below hb3
  have hbk3 := blk_below HBK.out hb3
  have ho3 : w3.ownsRow w1.heap.size 90 1 (.slice (some ⟨g, 0, none⟩) m cap) m ((a.way q).map A.val) := by
    have h0 := HO2.out
    exact ownsRow_upd h0 (Upd.of_below (fun _ => False) hb3) (by simp)
  have c1 : w3.cell? ⟨g, m - 1, none⟩ = some (.iface 95 (.pointer (some ⟨b, 0, none⟩))) := by
    rw [ho3.cellAt (m - 1) (by omega), List.getElem?_map, show m - 1 = q.length by have := HWLEN.out; omega, HWL.out]; rfl
  have hext : Calls Try.prog 70 #[.pointer (some ⟨b, 0, none⟩), .int .i64 kind] w3 fun e w' => e = .returned (.int .i64 s) ∧ w3 = w' := by
    have := extent_any b 0 W H kind w3 (blk_cell hbk3 2) (blk_cell hbk3 3)
    rw [HSX.out] at this
    exact this
  have k0 : w3.cell? ⟨b, 0, none⟩ = some (.int .i64 x) := blk_cell hbk3 0
  have k1 : w3.cell? ⟨b, 1, none⟩ = some (.int .i64 y) := blk_cell hbk3 1
  have k2 : w3.cell? ⟨b, 2, none⟩ = some (.int .i64 W) := blk_cell hbk3 2
  have k3 : w3.cell? ⟨b, 3, none⟩ = some (.int .i64 H) := blk_cell hbk3 3
  have HEXT := Lib.hid hext; have HB3 := Lib.hid hb3; have HREP3 := Lib.hid hrep3; have HBK3 := Lib.hid hbk3; have HO3 := Lib.hid ho3
  clear hext hb3 hrep3 hbk3 ho3
  have t5 := ta_leaf
  have z1 : ((m : Int) - 1).toNat = m - 1 := by omega
  have hs3' : ¬ s < 3 := by omega
  have hcase : (size < 1 ∧ (s - 1).tdiv 2 = n) ∨ (¬ size < 1 ∧ min size (s - 2) = n) := by
    have := HN.out
    by_cases hsz : size < 1
    · rw [if_pos hsz] at this; exact .inl ⟨hsz, this.symm⟩
    · rw [if_neg hsz] at this; exact .inr ⟨hsz, this.symm⟩
  rcases hcase with ⟨hsz, hN2⟩ | ⟨hsz, hN2⟩
  all_goals
    go_wp2_with (go_at_call 70; refine HEXT.out.mono ?_; rintro e w' ⟨rfl, rfl⟩)
    clear hN2 k0 k1 k2 k3 c1
    have hq4 := heap_alloc_new w3 (.cells #[.int .i64 x, .int .i64 y, .int .i64 W, .int .i64 H, .int .i64 id] 100)
    have hu4 : Upd (fun j => j = b) w3 _ := (Upd.refl _ w3).alloc (.cells #[.int .i64 x, .int .i64 y, .int .i64 W, .int .i64 H, .int .i64 id] 100)
    have hb4 := blk_alloc HBK3.out (.cells #[.int .i64 x, .int .i64 y, .int .i64 W, .int .i64 H, .int .i64 id] 100)
    have hbl := blk_lt HBK3.out
    generalize (w3.alloc (.cells #[.int .i64 x, .int .i64 y, .int .i64 W, .int .i64 H, .int .i64 id] 100)) = w4 at *
    obtain ⟨qb, hqb⟩ : ∃ qb, qb = w3.heap.size := ⟨_, rfl⟩
    rw [← hqb] at hq4 ⊢
    have HQB := Lib.hid hqb
    refine (set_five qb x y W H (.int .i64 id) 100 kind n w4 hq4).mono ?_
    rintro e w5 ⟨rfl, hq5, hu5⟩
    have hbq : b ≠ qb := by omega
    have hb5 := blk_upd hb4 hu5 hbq
    have hu45 := hu4.then_ hu5 (fun j hj e => by omega)
    have HQ5 := Lib.hid hq5; have HB5 := Lib.hid hb5; have HU45 := Lib.hid hu45
    clear hq4 hu4 hb4 hq5 hb5 hu5 hu45 hqb
    go_wp2_with fail
    refine (set_five b x y W H (.int .i64 pane) 100 kind (s - 1 - n) w5 HB5.out).mono ?_
    rintro e w6 ⟨rfl, hb6, hu6⟩
    have hq6 := blk_upd HQ5.out hu6 (Ne.symm hbq)
    have hu36 := HU45.out.then_ hu6 (fun j _ e => e)
    have ho6 := ownsRow_upd HO3.out hu36 (fun j hj e => ownsRow_ne HO3.out HBK3.out (by decide) (by rw [hj, e]))
    have hpair : ∀ W, Calls Try.prog 75 #[.iface 95 (.pointer (some ⟨b, 0, none⟩)), .iface 95 (.pointer (some ⟨qb, 0, none⟩)), .bool before] W fun e w' => e = .returned (.slice (some ⟨W.heap.size, 0, none⟩) 2 2) ∧ w' = W.alloc (.cells ((pairA (.leaf b) (.leaf qb) before).map A.val).toArray 90) := pair_any (.leaf b) (.leaf qb) before
    have HB6 := Lib.hid hb6; have HQ6 := Lib.hid hq6; have HU36 := Lib.hid hu36; have HO6 := Lib.hid ho6; have HPAIR := Lib.hid hpair
    clear hb6 hq6 hu6 hu36 ho6 hpair HB5 HQ5 HU45 HO3 HBK3 HFR HEXT HO2 HN HREAD HP
    clear HREAD
    rcases snoc_cases q with rfl | ⟨q', i, rfl⟩
    · have hm' : m < 2 := by have := HWLEN.out; simp at this; omega
      go_wp2_with (go_at_call 72; refine (parent_one _ m cap w6 hm').mono ?_; rintro e w' ⟨rfl, rfl⟩)
      have k0 : w6.cell? ⟨b, 0, none⟩ = some (.int .i64 x) := blk_cell HB6.out 0
      have k1 : w6.cell? ⟨b, 1, none⟩ = some (.int .i64 y) := blk_cell HB6.out 1
      have k2 : w6.cell? ⟨b, 2, none⟩ = some (.int .i64 (setW kind (s - 1 - n) W)) := blk_cell HB6.out 2
      have k3 : w6.cell? ⟨b, 3, none⟩ = some (.int .i64 (setH kind (s - 1 - n) H)) := blk_cell HB6.out 3
      have bl6 := blk_lt HB6.out
      generalize hWw : setW kind (s - 1 - n) W = Ww at *
      generalize hHh : setH kind (s - 1 - n) H = Hh at *
      have HWw := Lib.hid hWw; have HHh := Lib.hid hHh
      clear hWw hHh
      go_region_with (go_at_call 75; refine (HPAIR.out _).mono ?_; rintro e w' ⟨rfl, rfl⟩)
      all_goals
        obtain ⟨f1, f2, f3⟩ := box_world w6 (pairA (.leaf b) (.leaf qb) before) #[.int .i64 x, .int .i64 y, .int .i64 Ww, .int .i64 Hh, .int .i64 kind, .slice (some ⟨w6.heap.size, 0, none⟩) 2 2] (pair_len _ _ _)
        have hb7 := blk_upd HB6.out f3 (fun h => h)
        have hq7 := blk_upd HQ6.out f3 (fun h => h)
        have hu37 := HU36.out.then_ f3 (fun _ _ h => h.elim)
        have hq6l := blk_lt HQ6.out
        generalize ((w6.alloc (.cells ((pairA (.leaf b) (.leaf qb) before).map A.val).toArray 90)).alloc (.cells #[.int .i64 x, .int .i64 y, .int .i64 Ww, .int .i64 Hh, .int .i64 kind, .slice (some ⟨w6.heap.size, 0, none⟩) 2 2] 105)).drew = w7 at *
        clear f3 k0 k1 k2 k3
        obtain ⟨pb, hpb⟩ : ∃ pb, pb = w6.heap.size := ⟨_, rfl⟩
        rw [← hpb] at f1 f2 hq6l bl6 ⊢
        have HU37 := Lib.hid hu37; have HF1 := Lib.hid f1; have HF2 := Lib.hid f2; have HB7 := Lib.hid hb7; have HQ7 := Lib.hid hq7; have HPB := Lib.hid hpb
        clear hu37 f1 f2 hb7 hq7 hpb
        go_wp2_with fail
        refine (set_six (pb + 1) x y Ww Hh (.int .i64 kind) (.slice (some ⟨pb, 0, none⟩) 2 2) 105 kind s w7 HF1.out).mono ?_
        rintro e w8 ⟨rfl, hc8, hu8⟩
        have hput : Calls Try.prog 76 #[.iface ty (.pointer (some ⟨a.blk, 0, none⟩)), .slice (some ⟨g, 0, none⟩) m cap, .iface 102 (.pointer (some ⟨pb + 1, 0, none⟩))] w8 fun e w' => e = .returned (.iface 102 (.pointer (some ⟨pb + 1, 0, none⟩))) ∧ w8 = w' := by
          have := put_root a (.split (pb + 1) pb 0 2 (pairA (.leaf b) (.leaf qb) before)) (some ⟨g, 0, none⟩) m cap w8 hm'
          rw [HV.out] at this
          exact this
        have hend : Calls Try.prog 77 #[.iface 102 (.pointer (some ⟨pb + 1, 0, none⟩))] w8 fun e w' => EndPost w ((r.cutAt kind (cutPair kind n before id W H pane) W H []).lay 0 0 0) e w' := by
          obtain ⟨e1, e2⟩ := set_back kind (s - 1 - n) W H
          rw [HSX.out] at e1 e2
          rw [← HWw.out, ← HHh.out, e1, e2] at hc8
          have hab := HAB.out
          rw [A.at_nil] at hab
          have hbm : b ∈ a.blks := by rw [Option.some.inj hab]; simp [A.blks]
          have hs3 := HU36.out.size
          have hq3 := HQB.out
          have hp3 := HPB.out
          have hu38 := HU37.out.then_ hu8 (fun j hj e => by omega)
          have hrow8 : Row w8 pb 0 2 ((pairA (.leaf b) (.leaf qb) before).map A.val) := by
            obtain ⟨cs, h1, h2⟩ := HF2.out
            exact ⟨cs, blk_upd h1 hu8 (by omega), h2⟩
          have hb8 := blk_upd HB7.out hu8 (by omega)
          have hq8 := blk_upd HQ7.out hu8 (by omega)
          rw [← HWw.out, ← HHh.out, ← HSX.out] at hb8
          have hnode := node_rep (p := pane) (n := n) (before := before) HK.out hb8 hq8 hc8 hrow8
          refine end_write (w3 := w3) (a := a) (a' := .split (pb + 1) pb 0 2 (pairA (.leaf b) (.leaf qb) before)) (r' := r.cutAt kind (cutPair kind n before id W H pane) W H []) ((HB1.out.trans (HB2.out.mono HB1.out.size)).trans (HB3.out.mono (Nat.le_trans HB1.out.size HB2.out.size))) HGE.out hu38 (fun j _ e => e ▸ hbm) ?_ (by cases r; simp only [R.cutAt]; exact hnode) (node_nodup before (by omega) (by omega) (by omega) (by omega) (by omega) hbq) (by have := HOK.out.2; omega) HOK.out.1
          intro j hj
          rcases (node_blks before j).1 hj with rfl | rfl | rfl | rfl
          · right; omega
          · right; omega
          · exact .inl hbm
          · right; omega
        have HPUT := Lib.hid hput; have HEND := Lib.hid hend
        clear hput hend hc8 hu8
        go_wp2_with (go_at_call 76; refine HPUT.out.mono ?_; rintro e w' ⟨rfl, rfl⟩)
        refine HEND.out.mono ?_
        rintro e w9 ⟨v9, rfl, ho9, hb9⟩
        have HO9 := Lib.hid ho9; have HB9 := Lib.hid hb9; clear ho9 hb9
        go_wp2_with fail
        go_ret2
        exact ⟨v9, rfl, HO9.out, HB9.out⟩
    · have hab := HAB.out
      obtain ⟨ub, ua, uoff, ucap, uks, hau, hui⟩ := A.at_snoc q' i a _ hab
      obtain ⟨k, W0, H0, id0, kids, hru, hki⟩ := R.at_snoc q' i r _ HAT.out
      have hup := way_at_up q' i a _ _ hau hab
      have hml := HWLEN.out
      simp only [List.length_append, List.length_singleton] at hml
      have hm4 : 2 ≤ m := by omega
      obtain ⟨hmc, hcm⟩ : m ≤ cap ∧ cap ≤ maxLen := by
        rcases HO6.out.2 with ⟨h0, _⟩ | ⟨g', cap', cur, h0, _, _, h1, h2, _⟩
        · cases h0
        · simp only [Value.slice.injEq] at h0
          obtain ⟨_, _, rfl⟩ := h0
          exact ⟨h1, h2⟩
      have c1 : w6.cell? ⟨g, m - 2, none⟩ = some (.iface 102 (.pointer (some ⟨ub, 0, none⟩))) := by
        rw [HO6.out.cellAt (m - 2) (by omega), List.getElem?_map, show m - 2 = q'.length by omega, hup]; rfl
      obtain ⟨x1, hx1, hx2⟩ := Rep.at q' a r _ HREP3.out hru
      rw [hau] at hx1
      cases hx1
      have hx3 := hx2
      simp only [Rep] at hx3
      obtain ⟨_, _, ⟨x0, y0, hub3⟩, hrow3, hks3⟩ := hx3
      have hxn := A.at_nodup q' a _ hau HND.out
      have hubb : ub ≠ b := by
        rintro rfl
        simp only [A.blks, List.nodup_cons, List.mem_cons, not_or] at hxn
        exact hxn.1.2 (blksL_at hui _ (by simp [A.blks]))
      have huab : ua ≠ b := by
        rintro rfl
        simp only [A.blks, List.nodup_cons, List.mem_cons, not_or] at hxn
        exact hxn.2.1 (blksL_at hui _ (by simp [A.blks]))
      have hub6 := blk_upd hub3 HU36.out hubb
      have hrow6 : Row w6 ua uoff ucap (uks.map A.val) := by
        obtain ⟨cs, h1, h2⟩ := hrow3
        exact ⟨cs, blk_upd h1 HU36.out huab, h2⟩
      have hcat : ∀ kd ∈ uks, CellAt w6 kd := by
        intro kd hkd
        obtain ⟨j, hj⟩ := List.mem_iff_getElem?.1 hkd
        obtain ⟨rr, hrr⟩ : ∃ rr, kids[j]? = some rr := ⟨kids[j]'(by rw [← ((Reps_iff w3 uks kids).1 hks3).1]; exact (List.getElem?_eq_some_iff.1 hj).1), by simp⟩
        obtain ⟨cs, hcs⟩ := (((Reps_iff w3 uks kids).1 hks3).2 j kd rr hj hrr).cellAt
        by_cases hkb : kd.blk = b
        · have hlf := ((Reps_iff w3 uks kids).1 hks3).2 i _ _ hui hki
          simp only [Rep] at hlf
          obtain ⟨_, _, _, _, hbt⟩ := hlf
          rw [hkb, hbt] at hcs
          simp only [Option.some.injEq, Obj.cells.injEq] at hcs
          exact ⟨_, by rw [hkb, HB6.out, ← hcs.2.1]⟩
        · exact ⟨cs, blk_upd hcs HU36.out hkb⟩
      have hnei : ∀ (j : Nat) (kd : A), j < i → uks[j]? = some kd → kd.blk ≠ (A.leaf b).blk := by
        intro j kd hj hkd he
        simp only [A.blks, List.nodup_cons] at hxn
        refine blks_apart hxn.2.2 hkd hui (by omega) b ?_ (by simp [A.blks])
        rw [← show kd.blk = b from he]
        cases kd <;> simp [A.blks, A.blk]
      have hun : uks.length ≤ 1000 := by
        have h1 := ((Reps_iff w3 uks kids).1 hks3).1
        have h2 := R.at_cnt q' r _ hru
        have h3 := cntL_length kids
        simp only [R.cnt] at h2
        omega
      have hubua : ub ≠ ua := by
        rintro rfl
        simp only [A.blks, List.nodup_cons, List.mem_cons, true_or, not_true_eq_false, false_and] at hxn
      have hil := (List.getElem?_eq_some_iff.1 hui).1
      have hubl := blk_lt hub6
      have hpar := parent_up g m cap ub w6 hm4 hmc hcm c1
      have c4 : w6.cell? ⟨ub, 4, none⟩ = some (.int .i64 k) := blk_cell hub6 4
      have HPAR := Lib.hid hpar
      have HC1 := Lib.hid c1
      have HCAT := Lib.hid hcat; have HNEI := Lib.hid hnei; have HUI := Lib.hid hui; have HROW6 := Lib.hid hrow6; have HUB6 := Lib.hid hub6
      have HUP := Lib.hid hup; have HAU := Lib.hid hau; have HRU := Lib.hid hru; have HKI := Lib.hid hki; have HLEN := Lib.hid (And.intro hmc hcm)
      have hcmx : cap ≤ 2305843009213693952 → True := fun _ => trivial
      have HBB : Hid (Below w.heap.size w w3) := Lib.hid ((HB1.out.trans (HB2.out.mono HB1.out.size)).trans (HB3.out.mono (Nat.le_trans HB1.out.size HB2.out.size)))
      clear hpar c1 hml hcat hnei hui hrow6 hub6 hau hru hki hx2 hab hup hxn hub3 hrow3 hks3 hcmx hubb huab
      by_cases hkk : k = kind
      · have hkk2 : (k == kind) = true := by simpa using hkk
        have c5 : w6.cell? ⟨ub, 5, none⟩ = some (.slice (some ⟨ua, uoff, none⟩) uks.length ucap) := blk_cell HUB6.out 5
        go_wp2_with (go_at_call 72; refine HPAR.out.mono ?_; rintro e w' ⟨rfl, rfl⟩)
        have hidx : ∀ W : World, W.heap = w6.heap → Calls Try.prog 73 #[.slice (some ⟨ua, uoff, none⟩) uks.length ucap, .iface 95 (.pointer (some ⟨b, 0, none⟩))] W fun e w' => e = .returned (.int .i64 i) ∧ W = w' := by
          intro W hW
          refine index73 ua uoff uks.length ucap i uks (.leaf b) W rfl (by omega) (HROW6.out.congr (by rw [hW])) ?_ HUI.out HNEI.out
          intro kd hkd
          obtain ⟨cs, hcs⟩ := HCAT.out kd hkd
          exact ⟨cs, by rw [hW]; exact hcs⟩
        have HIDX := Lib.hid hidx; clear hidx
        go_wp2_with (go_at_call 73; refine (HIDX.out w6 rfl).mono ?_; rintro e w' ⟨rfl, rfl⟩)
        obtain ⟨P, hP⟩ : ∃ P : Array Value, P = ((pairA (.leaf b) (.leaf qb) before).map A.val).toArray := ⟨_, rfl⟩
        have hrepl : ∀ V : World, V.heap = (w6.alloc (.cells P 90)).heap → Upd (fun _ => False) w6 V → Calls Try.prog 74 #[.slice (some ⟨ua, uoff, none⟩) uks.length ucap, .int .i64 i, .int .i64 ((i : Int) + 1), .slice (some ⟨w6.heap.size, 0, none⟩) 2 2] V fun e w' =>
            ∃ g' off' cap', e = .returned (.slice (some ⟨g', off', none⟩) (uks.length + 1) cap') ∧ w'.cell? ⟨ub, 5, none⟩ = some (.slice (some ⟨ua, uoff, none⟩) uks.length ucap) ∧ w'.frozen? ⟨ub, 5, none⟩ = false ∧
              Hid (Calls Try.prog 77 #[.iface ty (.pointer (some ⟨a.blk, 0, none⟩))] (w'.setCell ⟨ub, 5, none⟩ (.slice (some ⟨g', off', none⟩) (uks.length + 1) cap')) fun e w'' => EndPost w ((r.cutAt kind (cutPair kind n before id W H pane) W H (q' ++ [i])).lay 0 0 0) e w'') := by
          intro V hV hUV
          have hPl := pair_len (.leaf b) (.leaf qb) before
          have hrow6 := HROW6.out
          have hual : ua < w6.heap.size := by obtain ⟨cs, h1, _⟩ := hrow6; exact blk_lt h1
          have hrowW : Row V ua uoff ucap (uks.map A.val) := by
            obtain ⟨cs, h1, h2⟩ := hrow6
            exact ⟨cs, by rw [hV]; exact blk_alloc h1 _, h2⟩
          have hvb : V.heap[w6.heap.size]? = some (.cells P 90 (0, 0)) := by rw [hV]; exact heap_alloc_new w6 _
          have hubW := blk_alloc HUB6.out (.cells P 90)
          rw [← hV] at hubW
          have one : ∀ (l : List A), ∀ v ∈ l.map A.val, v.oneCell' = true := by
            intro l v hv
            obtain ⟨z, _, rfl⟩ := List.mem_map.1 hv
            simp [A.val, Value.oneCell']
          have key := replace_any ua uoff ucap i w6.heap.size 0 2 2 (uks.map A.val) ((pairA (.leaf b) (.leaf qb) before).map A.val) V P (by simpa using hil) (by omega) (by simp; omega) (by omega) hrowW (by simp [hPl]) (one _) (one _) hvb
            (fun j v hv => by rw [Nat.zero_add, blk_cell hvb, hP]; simpa using hv)
          rw [List.length_map] at key
          refine key.mono ?_
          rintro e w8 ⟨g', off', cap', rfl, h1, h2, h3⟩
          have hu := blk_upd hubW h3 hubua
          refine ⟨g', off', cap', rfl, blk_cell hu 5, blk_free hu 5, Lib.hid ?_⟩
          have h66 := HB6.out
          have hq6 := HQ6.out
          have hqb3 := HQB.out
          rw [← HSX.out] at h66
          obtain ⟨a', s1, s2, s3, s4, s5⟩ := split_same (n := n) (before := before) HREP3.out HND.out HAU.out HRU.out HUI.out HKI.out hkk HU36.out h66 hq6 (by omega) hUV h1 h2 h3 rfl
          rw [← HV.out, ← s1]
          exact end_write (w3 := w3) (a := a) (a' := a') HBB.out HGE.out s5 (fun j _ e => e) s4 s2 s3 (by have := HOK.out.2; omega) HOK.out.1
        have HREPL := Lib.hid hrepl; clear hrepl
        have HPAIR2 : Hid (∀ W, Calls Try.prog 75 #[.iface 95 (.pointer (some ⟨b, 0, none⟩)), .iface 95 (.pointer (some ⟨qb, 0, none⟩)), .bool before] W fun e w' => e = .returned (.slice (some ⟨W.heap.size, 0, none⟩) 2 2) ∧ w' = W.alloc (.cells P 90)) := by rw [hP]; exact HPAIR.out
        clear hP
        have hwi : IntKind.i64.wrap ((i : Int) + 1) = (i : Int) + 1 := by rw [IntKind.wrap_i64]; omega
        go_region_with (first
          | (go_at_call 75; refine (HPAIR2.out _).mono ?_; rintro e w' ⟨rfl, rfl⟩)
          | (go_at_call 74; refine (HREPL.out _ ?_ ?_).mono ?_; rfl; exact ((Upd.refl _ w6).alloc _).drew; rintro e w8 ⟨g', off', cap', rfl, e1, e2, HEND⟩))
        all_goals
          clear e1 e2
          go_wp2_with fail
          refine HEND.out.mono ?_
          rintro e w9 ⟨v9, rfl, ho9, hb9⟩
          have HO9 := Lib.hid ho9; have HB9 := Lib.hid hb9; clear ho9 hb9
          go_wp2_with fail
          go_ret2
          exact ⟨v9, rfl, HO9.out, HB9.out⟩
      · have hkk2 : (k == kind) = false := by simpa using hkk
        go_wp2_with (go_at_call 72; refine HPAR.out.mono ?_; rintro e w' ⟨rfl, rfl⟩)
        have k0 : w6.cell? ⟨b, 0, none⟩ = some (.int .i64 x) := blk_cell HB6.out 0
        have k1 : w6.cell? ⟨b, 1, none⟩ = some (.int .i64 y) := blk_cell HB6.out 1
        have k2 : w6.cell? ⟨b, 2, none⟩ = some (.int .i64 (setW kind (s - 1 - n) W)) := blk_cell HB6.out 2
        have k3 : w6.cell? ⟨b, 3, none⟩ = some (.int .i64 (setH kind (s - 1 - n) H)) := blk_cell HB6.out 3
        have bl6 := blk_lt HB6.out
        generalize hWw : setW kind (s - 1 - n) W = Ww at *
        generalize hHh : setH kind (s - 1 - n) H = Hh at *
        have HWw := Lib.hid hWw; have HHh := Lib.hid hHh
        clear hWw hHh
        go_region_with (go_at_call 75; refine (HPAIR.out _).mono ?_; rintro e w' ⟨rfl, rfl⟩)
        all_goals
          obtain ⟨f1, f2, f3⟩ := box_world w6 (pairA (.leaf b) (.leaf qb) before) #[.int .i64 x, .int .i64 y, .int .i64 Ww, .int .i64 Hh, .int .i64 kind, .slice (some ⟨w6.heap.size, 0, none⟩) 2 2] (pair_len _ _ _)
          have hb7 := blk_upd HB6.out f3 (fun h => h)
          have hq7 := blk_upd HQ6.out f3 (fun h => h)
          have hq6l := blk_lt HQ6.out
          generalize ((w6.alloc (.cells ((pairA (.leaf b) (.leaf qb) before).map A.val).toArray 90)).alloc (.cells #[.int .i64 x, .int .i64 y, .int .i64 Ww, .int .i64 Hh, .int .i64 kind, .slice (some ⟨w6.heap.size, 0, none⟩) 2 2] 105)).drew = w7 at *
          clear k0 k1 k2 k3
          obtain ⟨pb, hpb⟩ : ∃ pb, pb = w6.heap.size := ⟨_, rfl⟩
          rw [← hpb] at f1 f2 hq6l bl6 hubl ⊢
          have HF3 := Lib.hid f3; have HF1 := Lib.hid f1; have HF2 := Lib.hid f2; have HB7 := Lib.hid hb7; have HQ7 := Lib.hid hq7; have HPB := Lib.hid hpb
          clear f3 f1 f2 hb7 hq7 hpb
          go_wp2_with fail
          refine (set_six (pb + 1) x y Ww Hh (.int .i64 kind) (.slice (some ⟨pb, 0, none⟩) 2 2) 105 kind s w7 HF1.out).mono ?_
          rintro e w8 ⟨rfl, hc8, hu8⟩
          have hput : Calls Try.prog 76 #[.iface ty (.pointer (some ⟨a.blk, 0, none⟩)), .slice (some ⟨g, 0, none⟩) m cap, .iface 102 (.pointer (some ⟨pb + 1, 0, none⟩))] w8 fun e w' => e = .returned (.iface ty (.pointer (some ⟨a.blk, 0, none⟩))) ∧
              Hid (Calls Try.prog 77 #[.iface ty (.pointer (some ⟨a.blk, 0, none⟩))] w' fun e w'' => EndPost w ((r.cutAt kind (cutPair kind n before id W H pane) W H (q' ++ [i])).lay 0 0 0) e w'') := by
            obtain ⟨e1, e2⟩ := set_back kind (s - 1 - n) W H
            rw [HSX.out] at e1 e2
            rw [← HWw.out, ← HHh.out, e1, e2] at hc8
            have hs3 := HU36.out.size
            have hq3 := HQB.out
            have hp3 := HPB.out
            have hu68 : Upd (fun _ => False) w6 w8 := HF3.out.then_ hu8 (fun j hj e => by omega)
            have hu38 := HU36.out.then_ hu68 (fun j hj e => e.elim)
            have hrow8p : Row w8 pb 0 2 ((pairA (.leaf b) (.leaf qb) before).map A.val) := by
              obtain ⟨cs, h1, h2⟩ := HF2.out
              exact ⟨cs, blk_upd h1 hu8 (by omega), h2⟩
            have hb8 := blk_upd HB7.out hu8 (by omega)
            have hq8 := blk_upd HQ7.out hu8 (by omega)
            rw [← HWw.out, ← HHh.out, ← HSX.out] at hb8
            have ho8 := ownsRow_upd HO6.out hu68 (by simp)
            have d1 : w8.cell? ⟨g, m - 2, none⟩ = some (.iface 102 (.pointer (some ⟨ub, 0, none⟩))) := by
              rw [ho8.cellAt (m - 2) (by omega), List.getElem?_map, show m - 2 = q'.length by have := HWLEN.out; simp only [List.length_append, List.length_singleton] at this; omega, HUP.out]; rfl
            have d2 : w8.cell? ⟨g, m - 1, none⟩ = some (A.leaf b).val := by
              rw [ho8.cellAt (m - 1) (by omega), List.getElem?_map, show m - 1 = (q' ++ [i]).length by have := HWLEN.out; omega, HWL.out]; rfl
            have hub8 := blk_upd HUB6.out hu68 (fun h => h)
            have hrow8 : Row w8 ua uoff ucap (uks.map A.val) := by
              obtain ⟨cs, h1, h2⟩ := HROW6.out
              exact ⟨cs, blk_upd h1 hu68 (fun h => h), h2⟩
            have hcat8 : ∀ kd ∈ uks, CellAt w8 kd := by
              intro kd hkd
              obtain ⟨cs, hcs⟩ := HCAT.out kd hkd
              exact ⟨cs, blk_upd hcs hu68 (fun h => h)⟩
            have hp := put_up a (.split (pb + 1) pb 0 2 (pairA (.leaf b) (.leaf qb) before)) g m cap ub ua uoff uks.length ucap i uks (.leaf b) w8 hm4 HLEN.out.1 HLEN.out.2 (by omega) d1 (Lib.hid d2) (blk_cell hub8 5) (Lib.hid rfl) (Lib.hid hrow8) (Lib.hid hcat8) HUI HNEI
            rw [HV.out] at hp
            refine hp.mono ?_
            rintro e w9 ⟨rfl, t, hw9⟩
            refine ⟨rfl, Lib.hid ?_⟩
            obtain ⟨a', s1, s2, s3, s4, s5⟩ := split_other (n := n) (before := before) HREP3.out HND.out HAU.out HRU.out HUI.out HKI.out hkk HK.out hu38 hb8 hq8 (by omega) hc8 hrow8p (by omega) (by omega) (by omega) (by omega) (by omega) hw9
            rw [← HV.out, ← s1]
            exact end_write (w3 := w3) (a := a) (a' := a') HBB.out HGE.out s5 (fun j _ e => e) s4 s2 s3 (by have := HOK.out.2; omega) HOK.out.1
          have HPUT := Lib.hid hput
          clear hput hc8 hu8
          go_wp2_with (go_at_call 76; refine HPUT.out.mono ?_; rintro e w9 ⟨rfl, HEND⟩)
          refine HEND.out.mono ?_
          rintro e w10 ⟨v9, rfl, ho9, hb9⟩
          have HO9 := Lib.hid ho9; have HB9 := Lib.hid hb9; clear ho9 hb9
          go_wp2_with fail
          go_ret2
          exact ⟨v9, rfl, HO9.out, HB9.out⟩

end Go.Proofs.Ytpehceccnjdfeaa
