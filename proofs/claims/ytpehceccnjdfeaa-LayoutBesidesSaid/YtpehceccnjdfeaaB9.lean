/- read: the loop over the cells. -/
import Derived.Test.YtpehceccnjdfeaaB8
namespace Go.Proofs.Ytpehceccnjdfeaa
open Go.RowKit
open Go.Maps (Keyed int_keyed Tidy IsMap)

/-- What holds behind j cells. -/
def ReadLoop (w : World) (l : List Cl) (j : Nat) (wr : World) : Prop :=
  ∃ ids, scan (l.drop j) ids = scan l [] ∧ ids.length ≤ j ∧ ∃ D, SeenD D ids ∧ wr.ownsMap Try.prog 3 (plainElem Try.prog 3) w.heap.size j D ∧ Below w.heap.size w wr

theorem scan_at {l : List Cl} {j : Nat} {c : Cl} (h : l[j]? = some c) (ids : List Int) : scan (l.drop j) ids =
    if sideB c.w && sideB c.h then
      if c.k = 1 then if idB c.p && !ids.contains c.p then scan (l.drop (j + 1)) (ids ++ [c.p]) else none
      else if c.p = 0 ∧ kindB c.k = true then scan (l.drop (j + 1)) ids else none
    else none := by
  obtain ⟨hj, rfl⟩ := List.getElem?_eq_some_iff.1 h
  rw [List.drop_eq_getElem_cons hj, scan]

set_option maxRecDepth 100000 in
set_option maxHeartbeats 2000000 in
theorem read_main (b off n cap : Nat) (c0 : Cl) (t : List Cl) (w : World) (hn0 : (0 : Int) < (n : Int)) (hn : ¬ (64 : Int) < (n : Int)) (hlen : Hid (n = (c0 :: t).length)) (hcap : n ≤ cap) (h56 : Hid (CapOk n cap))
    (hw : sideB c0.w = true) (hh : sideB c0.h = true) (hb : b < w.heap.size)
    (hc : Hid (∀ (i : Nat) (e : Cl), (c0 :: t)[i]? = some e → ∀ j, j < 7 → w.cell? ⟨b, off + i * 7 + j, none⟩ = e.vals[j]?)) :
    Calls Try.prog 66 #[.slice (some ⟨b, off, none⟩) n cap] w fun e w' => ReadPost w (readF (c0 :: t)) e w' := by
  have h0 : ((n : Int) == 0) = false := by simp; omega
  have a4 : w.cell? ⟨b, off + 4, none⟩ = some (.int .i64 c0.w) := by simpa [Cl.vals] using hc.out 0 c0 rfl 4 (by omega)
  have a5 : w.cell? ⟨b, off + 5, none⟩ = some (.int .i64 c0.h) := by simpa [Cl.vals] using hc.out 0 c0 rfl 5 (by omega)
  have hmm := @run_makeMap Try.prog
  go_enter Try.func66, Try.ntmps66
  go_wp2_with (go_at_call 63; refine (side_any _ _).mono ?_; rintro e w' ⟨rfl, rfl⟩)
  clear hmm a4 a5
  go_loopw [35] (fun i wr => ∃ j : Nat, j ≤ n ∧ i = .int .i64 j ∧ ReadLoop w (c0 :: t) j wr) (fun i _ => n - (intOf i).toNat)
  case atStart => exact ⟨0, Nat.zero_le _, rfl, [], rfl, by simp, .map [], seen_nil, World.ownsMap_made _ _ _ _, (Below.refl _ _).alloc (Nat.le_refl _) _⟩
  case round =>
    obtain ⟨j, hj, rfl, ids, h1, h2, D, h3, h4, h5⟩ := hrel
    by_cases hlt : j < n
    · obtain ⟨c, hcj⟩ : ∃ c, (c0 :: t)[j]? = some c := ⟨(c0 :: t)[j]'(by rw [← hlen.out]; exact hlt), by simp⟩
      have g := fun i hi => (h5.cell (p := ⟨b, off + j * 7 + i, none⟩) hb).trans (hc.out j c hcj i hi)
      have a0 := g 0 (by omega); have a1 := g 1 (by omega); have a2 := g 2 (by omega); have a3 := g 3 (by omega); have a4 := g 4 (by omega); have a5 := g 5 (by omega); have a6 := g 6 (by omega)
      clear g
      simp only [Cl.vals, List.getElem?_cons_zero, List.getElem?_cons_succ, Nat.add_zero] at a0 a1 a2 a3 a4 a5 a6
      have hsc := scan_at hcj ids
      rw [h1] at hsc
      have Hsc := Lib.hid hsc; clear hsc
      have HCJ := Lib.hid hcj; clear hcj
      have H1 := Lib.hid h1; have H2 := Lib.hid h2; have H3 := Lib.hid h3; have H4 := Lib.hid h4; have H5 := Lib.hid h5
      clear h1 h2 h3 h4 h5
      have hB2 : w.heap.size ≤ wr.heap.size := H5.out.size
      -- the world behind the copy of the cell
      have hfail : Hid (scan (c0 :: t) [] = none → ∀ W, Below w.heap.size w W → ReadPost w (readF (c0 :: t)) (.returned .nilIface) W) := by
        intro hs W hW
        have : readF (c0 :: t) = none := by unfold readF; simp only []; rw [hs]; split <;> rfl
        rw [this]; exact ⟨hW, rfl⟩
      have HW : Hid (Below w.heap.size w (wr.alloc (.cells #[.int .i64 c.d, .int .i64 c.k, .int .i64 c.x, .int .i64 c.y, .int .i64 c.w, .int .i64 c.h, .int .i64 c.p] 53))) := H5.out.alloc hB2 _
      by_cases hs : sideB c.w = true ∧ sideB c.h = true
      · obtain ⟨s1, s2⟩ := (sideB_iff c.w).1 hs.1
        obtain ⟨s3, s4⟩ := (sideB_iff c.h).1 hs.2
        have Hs := Lib.hid hs; clear hs
        by_cases hk : c.k = 1
        · have hk2 : (c.k == 1) = true := by simpa using hk
          have Hk := Lib.hid hk; clear hk
          by_cases hid : idB c.p = true
          · obtain ⟨p1, p2⟩ := (idB_iff c.p).1 hid
            have hkey : keyOf Try.prog 3 (.int .i64 c.p) = some (key c.p) := Go.Maps.keyOf_int_mk Try.underlying3 (WalkArith.wf_i64 (by omega))
            have HKY := Lib.hid hkey; clear hkey
            by_cases hmem : c.p ∈ ids
            · have Hmem := Lib.hid hmem; clear hmem
              go_wp2_with (first
                | (go_at_call 64; refine (id_any _ _).mono ?_; rintro e w' ⟨rfl, rfl⟩)
                | (at_lookup; go_must (refine wpList_lookup_guard _ (by rfl) _ _ 150 rfl 3 3 .i64 mlaw Try.underlying150 Try.underlying3 (mzero _) w.heap.size j D rfl (H4.out.alloc _) _ (key c.p) rfl HKY.out ?_); intro q hat; obtain rfl : q = 1 := (by have := (H3.out.2.2.2 c.p).symm.trans hat; rw [if_pos Hmem.out] at this; simpa [one, eq_comm] using this)))
              go_ret
              refine hfail.out ?_ _ HW.out
              rw [Hsc.out, Hs.out.1, Hs.out.2, if_pos Hk.out, hid, show ids.contains c.p = true by simpa using Hmem.out]
              rfl
            · have Hmem := Lib.hid hmem; clear hmem
              go_wp2_with (first
                | (go_at_call 64; refine (id_any _ _).mono ?_; rintro e w' ⟨rfl, rfl⟩)
                | (at_lookup; go_must (refine wpList_lookup_guard _ (by rfl) _ _ 150 rfl 3 3 .i64 mlaw Try.underlying150 Try.underlying3 (mzero _) w.heap.size j D rfl (H4.out.alloc _) _ (key c.p) rfl HKY.out ?_); intro q hat; obtain rfl : q = 0 := (by have := (H3.out.2.2.2 c.p).symm.trans hat; rw [if_neg Hmem.out] at this; simpa [one, eq_comm] using this))
                | (at_mapUpdate; go_must (refine wpList_mapUpdate_own _ rfl _ _ _ 150 rfl 3 3 mlaw Try.underlying150 _ w.heap.size j D rfl (H4.out.alloc _) (by unfold maxLen; omega) _ _ _ rfl rfl HKY.out _ [] (plainElem_int Try.underlying3 (by decide)) ?_); intro w1 hown1 hgrow1; have Hown1 := Lib.hid hown1; have Hgrow1 := Lib.hid hgrow1; clear hown1 hgrow1))
              refine ⟨⟨j + 1, hlt, num_succ j, ids ++ [c.p], ?_, ?_, _, seen_snoc H3.out Hmem.out, Hown1.out, HW.out.grown Hgrow1.out (by simp; omega) (fun q hq => by cases hq; exact Nat.le_refl _)⟩, meas_lt hlt⟩
              · rw [Hsc.out, Hs.out.1, Hs.out.2, if_pos Hk.out, hid, show ids.contains c.p = false by simpa using Hmem.out]
                rfl
              · have := H2.out; simp; omega
          · have hid2 : idB c.p = false := by simpa using hid
            clear hid
            go_wp2_with (go_at_call 64; refine (id_any _ _).mono ?_; rintro e w' ⟨rfl, rfl⟩)
            go_ret
            refine hfail.out ?_ _ HW.out
            rw [Hsc.out, Hs.out.1, Hs.out.2, if_pos Hk.out, hid2]
            rfl
        · have hk2 : (c.k == 1) = false := by simpa using hk
          have Hk := Lib.hid hk; clear hk
          by_cases hp : c.p = 0
          · have hp2 : (c.p != 0) = false := by simpa using hp
            have Hp := Lib.hid hp; clear hp
            by_cases hkb : kindB c.k = true
            · go_wp2_with (go_at_call 67; refine (kindOf_any _ _).mono ?_; rintro e w' ⟨rfl, rfl⟩)
              refine ⟨⟨j + 1, hlt, num_succ j, ids, ?_, ?_, D, H3.out, (H4.out.alloc _).mono (by omega), HW.out⟩, meas_lt hlt⟩
              · rw [Hsc.out]; simp [Hs.out.1, Hs.out.2, Hk.out, Hp.out, hkb]
              · have := H2.out; omega
            · have hkb2 : kindB c.k = false := by simpa using hkb
              clear hkb
              go_wp2_with (go_at_call 67; refine (kindOf_any _ _).mono ?_; rintro e w' ⟨rfl, rfl⟩)
              go_ret
              refine hfail.out ?_ _ HW.out
              rw [Hsc.out]; simp [Hs.out.1, Hs.out.2, Hk.out, hkb2]
          · have hp2 : (c.p != 0) = true := by simpa using hp
            have Hp := Lib.hid hp; clear hp
            go_wp2_with (go_at_call 67; refine (kindOf_any _ _).mono ?_; rintro e w' ⟨rfl, rfl⟩)
            go_ret
            refine hfail.out ?_ _ HW.out
            rw [Hsc.out]; simp [Hs.out.1, Hs.out.2, Hk.out, Hp.out]
      · have Hs := Lib.hid hs; clear hs
        have hfin : scan (c0 :: t) [] = none := by
          rw [Hsc.out]
          have : (sideB c.w && sideB c.h) = false := by
            cases h1 : sideB c.w
            · rfl
            · cases h2 : sideB c.h
              · rfl
              · exact absurd ⟨h1, h2⟩ Hs.out
          rw [this]; rfl
        have Hfin := Lib.hid hfin; clear hfin
        have hw4 : c.w < 1 ∨ 1000 < c.w ∨ c.h < 1 ∨ 1000 < c.h := by
          have := Hs.out
          rw [sideB_iff, sideB_iff] at this
          omega
        clear h0
        rcases hw4 with q | q | q | q
        · go_wp2_with fail
          go_ret
          exact hfail.out Hfin.out _ HW.out
        · have q2 : ¬ c.w < 1 := by omega
          go_wp2_with fail
          go_ret
          exact hfail.out Hfin.out _ HW.out
        · go_wp2_with fail
          all_goals
            go_ret
            exact hfail.out Hfin.out _ HW.out
        · go_wp2_with fail
          all_goals
            go_ret
            exact hfail.out Hfin.out _ HW.out
    · have hscan : scan (c0 :: t) [] = some ids := by
        rw [← h1, List.drop_of_length_le (by have := hlen.out; omega)]; rfl
      have hsz := h3.2.1
      have H3 := Lib.hid h3; have H4 := Lib.hid h4; have H5 := Lib.hid h5; have Hscan := Lib.hid hscan; have Hsz := Lib.hid hsz
      clear h1 h2 h3 h4 h5 hscan hsz
      generalize hm : ids.length = m at *
      have Hm := Lib.hid hm; clear hm
      by_cases h32 : (32 : Int) < (m : Int)
      · go_wp2_with (at_len; go_must (refine wpList_len_own _ rfl _ 150 rfl 3 3 Try.underlying150 _ w.heap.size j D rfl H4.out ?_); rw [Hsz.out])
        go_ret
        have : readF (c0 :: t) = none := by
          unfold readF
          simp only []
          rw [Hscan.out]
          split
          · simp only []; rw [if_neg (by have := Hm.out; omega)]
          · rfl
        rw [this]
        exact ⟨H5.out, rfl⟩
      · go_wp2_with (at_len; go_must (refine wpList_len_own _ rfl _ 150 rfl 3 3 Try.underlying150 _ w.heap.size j D rfl H4.out ?_); rw [Hsz.out])
        have hok := scan_ok _ _ _ Hscan.out
        have hrd : Hid (ReadsB w.heap.size wr (.slice (some ⟨b, off, none⟩) n cap) (c0 :: t)) := by
          have h0 : ReadsB w.heap.size w (.slice (some ⟨b, off, none⟩) (c0 :: t).length cap) (c0 :: t) := ⟨_, _, rfl, by have := hlen.out; omega, by rw [← hlen.out]; exact h56.out, fun _ => ⟨b, off, rfl, hb, hc.out⟩⟩
          rw [← hlen.out] at h0
          exact h0.below H5.out
        have Hok := Lib.hid hok; clear hok
        refine (grow_any (2 * (c0 :: t).length + 1) w.heap.size _ (c0 :: t) 0 wr H5.out.size (by omega) (by simp) (by have := hlen.out; omega) Hok.out (by omega) (by have := hlen.out; omega) hrd.out).mono ?_
        rintro e w2 ⟨hb2, hres⟩
        have hB2 : Below w.heap.size w w2 := below_then H5.out (Nat.le_refl _) hb2
        have hR2 := Lib.hid (hrd.out.below (hb2.mono H5.out.size))
        have hrF : readF (c0 :: t) = match growF (2 * (c0 :: t).length + 1) (c0 :: t) 0 with
          | none => none
          | some (r, l') => if l' = [] ∧ r.lay 0 0 0 = c0 :: t then some r else none := by
          unfold readF
          simp only []
          rw [if_pos ⟨by have := hlen.out; omega, hw, hh⟩, Hscan.out]
          simp only []
          rw [if_pos (by have := Hm.out; omega)]
          rfl
        have hsz2 : wr.heap.size ≤ w2.heap.size := hb2.size
        have hwsz : w.heap.size ≤ wr.heap.size := H5.out.size
        clear H3 H4 Hsz Hm Hscan h0 hb2
        cases hg : growF (2 * (c0 :: t).length + 1) (c0 :: t) 0 with
        | none =>
          rw [hg] at hres hrF
          obtain ⟨u, rfl⟩ := hres
          have HrF := Lib.hid hrF; clear hrF
          have Hg := Lib.hid hg; clear hg
          have HB2 := Lib.hid hB2; clear hB2
          go_wp2_with fail
          go_ret
          rw [HrF.out]
          exact ⟨HB2.out, rfl⟩
        | some res =>
          obtain ⟨r, l'⟩ := res
          rw [hg] at hres hrF
          obtain ⟨a, v, rfl, k1, k2, k3, k4⟩ := hres
          obtain ⟨hcnt, hbd⟩ := (grow_cnt _).1 _ _ _ _ hg Hok.out
          obtain ⟨ty, hv, _⟩ := val_parts a
          rw [hv]
          obtain ⟨va, vc, rfl, q1, q2, q3⟩ := k1
          have HrF := Lib.hid hrF; have Hg := Lib.hid hg; have HB2 := Lib.hid hB2; have HV := Lib.hid hv; have K2 := Lib.hid k2; have K3 := Lib.hid k3; have K4 := Lib.hid k4; have Hcnt := Lib.hid hcnt; have Hbd := Lib.hid hbd
          clear hrF hg hB2 hv k2 k3 k4 hcnt hbd q1 q2 q3
          by_cases hl' : l' = []
          · subst hl'
            have hwr := write_any a r w2 K2.out K3.out (by have := Hcnt.out; have := hlen.out; simp at *; omega) (Hbd.out.mono (by omega) (by omega))
            rw [HV.out] at hwr
            have Hwr := Lib.hid hwr; clear hwr
            simp only [List.length_nil]
            go_wp2_with fail
            refine Hwr.out.mono ?_
            rintro e w3 ⟨v3, rfl, o1, o2, o3, o4⟩
            have o5 := o1.reads (by rw [R.lay_length]; have := Hcnt.out; have := hlen.out; simp at *; omega)
            have hb3 : Below w.heap.size w w3 := Below.trans HB2.out (o4.below w.heap.size (Nat.le_trans hwsz hsz2) (fun k _ hk => Nat.le_trans hwsz (K4.out k hk)))
            have hR3 : Reads w3 (.slice (some ⟨b, off, none⟩) n cap) (c0 :: t) := (hR2.out.below (o4.below w.heap.size (Nat.le_trans hwsz hsz2) (fun k _ hk => Nat.le_trans hwsz (K4.out k hk)))).reads
            have HO2 := Lib.hid o2; have HO3 := Lib.hid o3; have HB3 := Lib.hid hb3; have HO5 := Lib.hid o5; have HR3 := Lib.hid hR3
            clear o1 o2 o3 o4 o5 hb3 hR3
            by_cases hl : r.lay 0 0 0 = c0 :: t
            · have hd : decide (r.lay 0 0 0 = c0 :: t) = true := by simpa using hl
              have Hl := Lib.hid hl; clear hl
              go_wp2_with (go_at_call 117; refine (equal_any _ _ _ _ _ HO5.out HR3.out).mono ?_; rw [hd]; rintro e w' ⟨rfl, m, rfl⟩)
              go_ret
              rw [HrF.out]
              simp only []
              rw [if_pos ⟨trivial, Hl.out⟩]
              exact ⟨below_drewN HB3.out m, a, congrArg Ending.returned HV.out.symm, HO2.out.congr _ _ (fun _ _ => rfl), HO3.out.congr _ _ _ _ (fun _ _ => rfl), K3.out, fun k hk => Nat.le_trans hwsz (K4.out k hk)⟩
            · have hd : decide (r.lay 0 0 0 = c0 :: t) = false := by simpa using hl
              have Hl := Lib.hid hl; clear hl
              go_wp2_with (go_at_call 117; refine (equal_any _ _ _ _ _ HO5.out HR3.out).mono ?_; rw [hd]; rintro e w' ⟨rfl, m, rfl⟩)
              go_ret
              rw [HrF.out]
              simp only []
              rw [if_neg (fun h => Hl.out h.2)]
              exact ⟨below_drewN HB3.out m, rfl⟩
          · have hlp : (0 : Int) < (l'.length : Int) := by have := List.length_pos_iff.2 hl'; omega
            have Hl := Lib.hid hl'; clear hl'
            go_wp2_with fail
            go_ret
            rw [HrF.out]
            simp only []
            rw [if_neg (fun h => Hl.out h.1)]
            exact ⟨HB2.out, rfl⟩

end Go.Proofs.Ytpehceccnjdfeaa
