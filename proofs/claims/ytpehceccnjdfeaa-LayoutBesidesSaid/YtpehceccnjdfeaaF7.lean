/- The reference's sizes: the walk. -/
import Derived.Test.YtpehceccnjdfeaaF6
namespace Go.Proofs.Ytpehceccnjdfeaa
open Go.RowKit

def SzPost (w : World) (P : Prop) (e : Ending) (w' : World) : Prop := ∃ b : Bool, e = .returned (.bool b) ∧ (b = true ↔ P) ∧ Below w.heap.size w w'

def RSzSaid (n : Nat) : Prop := ∀ (r : R) (v : Value) (w : World), r.depth ≤ n → NRep w v r → r.cnt ≤ 1000 → r.w ≤ 1000 → r.h ≤ 1000 → Calls Try.prog 125 #[v] w fun e w' => SzPost w r.sz e w'

structure RSzLoop (w : World) (bv : Array Value) (k W H : Int) (kids : List R) (j : Nat) (s : Int) (wr : World) : Prop where
  sz : szL k W H (kids.take j)
  sum : s = (kids.length : Int) - 1 + spanL k (kids.take j) - j
  bel : Below w.heap.size w wr
  box : wr.heap[w.heap.size]? = some (.cells bv 88 (0, 0))

theorem sz_ext {k W H : Int} {l : List R} (h : szL k W H l) (hW : W ≤ 1000) (hH : H ≤ 1000) : ∀ r ∈ l, 1 ≤ r.ext k ∧ r.ext k ≤ 1000 := by
  intro r hr
  obtain ⟨_, h1, h2, h3, _⟩ := szL_mem h hr
  cases r
  simp only [R.sz] at h3
  simp only [R.w, R.h] at h1 h2
  simp only [R.ext, ext, R.w, R.h]
  split <;> omega

theorem rsz_facts {n : Nat} (ih : RSzSaid n) {w wr : World} {bv : Array Value} {a : Option Addr} {k W H s : Int} {kids : List R} {j m : Nat} (hdep : depthL kids ≤ n) (hm : m = kids.length) (hL : RSzLoop w bv k W H kids j s wr)
    (hat : kids ≠ [] → ∃ b off, a = some ⟨b, off, none⟩ ∧ ∀ j r, kids[j]? = some r → NAt w b (off + j * 5) r) (hcnt : cntL kids + 1 ≤ 1000) (hW : W ≤ 1000) (hH : H ≤ 1000)
    (hlt : j < m) : ∃ (b off : Nat) (r : R) (sa : Option Addr) (sc : Nat), a = some ⟨b, off, none⟩ ∧ kids[j]? = some r ∧ wr.cell? ⟨b, off + j * 5, none⟩ = some (.int .i64 r.kind) ∧ wr.cell? ⟨b, off + j * 5 + 1, none⟩ = some (.int .i64 r.w) ∧
      wr.cell? ⟨b, off + j * 5 + 2, none⟩ = some (.int .i64 r.h) ∧ wr.cell? ⟨b, off + j * 5 + 3, none⟩ = some (.int .i64 r.id) ∧ wr.cell? ⟨b, off + j * 5 + 4, none⟩ = some (.slice sa r.kids.length sc) ∧
      (0 ≤ s ∧ s ≤ 2000000) ∧ (r.w ≤ 1000 → r.h ≤ 1000 → ∀ W', Below wr.heap.size wr W' → Calls Try.prog 125 #[.agg #[.int .i64 r.kind, .int .i64 r.w, .int .i64 r.h, .int .i64 r.id, .slice sa r.kids.length sc]] W' fun e w' => SzPost W' r.sz e w') := by
  obtain ⟨r, hr⟩ : ∃ r, kids[j]? = some r := ⟨kids[j]'(by omega), by simp⟩
  obtain ⟨b, off, ha, hA⟩ := hat (by rintro rfl; simp at hr)
  obtain ⟨_, ⟨sa, sc, rfl⟩, h1, h2, h3, h4, h5, h6⟩ := ((hA j r hr).below hL.bel).rep
  have hs := take_split hr
  have hmem := List.mem_of_getElem? hr
  have hcnt2 : cntL kids = cntL (kids.take j) + (r.cnt + cntL (kids.drop (j + 1))) := by
    have := congrArg cntL hs
    rw [cntL_append] at this
    simpa [cntL] using this
  have he := sz_ext hL.sz hW hH
  have g1 := span_ge _ (fun r hr => (he r hr).1)
  have g2 := span_le _ (fun r hr => (he r hr).2)
  have hl := cntL_length kids
  have htl : (kids.take j).length = j := by simp; omega
  have hsum := hL.sum
  exact ⟨b, off, r, sa, sc, ha, hr, h2, h3, h4, h5, h6, by omega, fun x1 x2 W' hW' => ih r _ W' (Nat.le_trans (depth_mem hmem) hdep) (h1.below hW') (by omega) x1 x2⟩

theorem sz_no {k W H i : Int} {kids : List R} {j : Nat} {r : R} (hr : kids[j]? = some r) (hk : k = 2 ∨ k = 3) (h : ¬ (r.kind ≠ k ∧ r.w ≤ W ∧ r.h ≤ H ∧ r.sz ∧ r.ext (5 - k) = ext (5 - k) W H)) : ¬ (R.mk k W H i kids).sz := by
  intro hs
  simp only [R.sz] at hs
  rcases hs.2 with ⟨rfl, _⟩ | ⟨_, _, _, hl, _⟩
  · omega
  · exact h (szL_mem hl (List.mem_of_getElem? hr))

set_option maxRecDepth 100000 in
set_option maxHeartbeats 4000000 in
theorem rsz_node (n : Nat) (ih : Hid (RSzSaid n)) (k W H id : Int) (kids : List R) (m : Nat) (a : Option Addr) (cap : Nat) (w : World) (hk : k = 2 ∨ k = 3) (hid : id = 0) (hm0 : 2 ≤ m) (hw1 : 1 ≤ W) (hw2 : W ≤ 1000) (hh1 : 1 ≤ H) (hh2 : H ≤ 1000) (hdep : Hid (depthL kids ≤ n)) (hm : Hid (m = kids.length)) (hm1 : m ≤ 1000) (hm2 : m ≤ cap) (hcap : cap ≤ maxLen)
    (hat : Hid (kids ≠ [] → ∃ b off, a = some ⟨b, off, none⟩ ∧ ∀ j r, kids[j]? = some r → NAt w b (off + j * 5) r)) (hcnt : Hid (cntL kids + 1 ≤ 1000)) :
    Calls Try.prog 125 #[.agg #[.int .i64 k, .int .i64 W, .int .i64 H, .int .i64 id, .slice a m cap]] w fun e w' => SzPost w (R.mk k W H id kids).sz e w' := by
  have b1 : ¬ W < 1 := by omega
  have b2 : ¬ H < 1 := by omega
  have b3 : ¬ k < 1 := by omega
  have b4 : ¬ 3 < k := by omega
  have b5 : (k == 1) = false := by simp; omega
  have b6 : ¬ (m : Int) < 2 := by omega
  subst hid
  have HK := Lib.hid hk
  go_enter Try.func125, Try.ntmps125
  go_wp2_with fail
  go_loopw [3, 4] (fun sv i wr => ∃ (s : Int) (j : Nat), j ≤ m ∧ i = .int .i64 j ∧ sv = .int .i64 s ∧ RSzLoop w #[.int .i64 k, .int .i64 W, .int .i64 H, .int .i64 0, .slice a m cap] k W H kids j s wr) (fun _ i _ => m - (intOf i).toNat)
  case atStart =>
    refine ⟨_, 0, Nat.zero_le _, rfl, rfl, trivial, ?_, ?_, ?_⟩
    · have := hm.out; simp [spanL]; omega
    · exact (Below.refl _ _).alloc (Nat.le_refl _) _
    · exact heap_alloc_new w _
  case round =>
    obtain ⟨s, j, hj, rfl, rfl, hL⟩ := hrel
    have c0 : wr.cell? ⟨w.heap.size, 0, none⟩ = some (.int .i64 k) := blk_cell hL.box 0
    have c1 : wr.cell? ⟨w.heap.size, 1, none⟩ = some (.int .i64 W) := blk_cell hL.box 1
    have c2 : wr.cell? ⟨w.heap.size, 2, none⟩ = some (.int .i64 H) := blk_cell hL.box 2
    have c3 : wr.cell? ⟨w.heap.size, 3, none⟩ = some (.int .i64 0) := blk_cell hL.box 3
    have c4 : wr.cell? ⟨w.heap.size, 4, none⟩ = some (.slice a m cap) := blk_cell hL.box 4
    have hb0 : w.heap.size < wr.heap.size := blk_lt hL.box
    by_cases hlt : j < m
    · obtain ⟨b, off, r, sa, sc, rfl, hr, k0, k1, k2, k3, k4, ⟨s1, s2⟩, hC⟩ := rsz_facts ih.out hdep.out hm.out hL hat.out hcnt.out hw2 hh2 hlt
      have HL := Lib.hid hL; have HC := Lib.hid hC; have HR := Lib.hid hr
      clear hL hC hr hat
      have hno : Hid (¬ (r.kind ≠ k ∧ r.w ≤ W ∧ r.h ≤ H ∧ r.sz ∧ r.ext (5 - k) = ext (5 - k) W H) → ∀ W' : World, Below w.heap.size w W' → SzPost w (R.mk k W H 0 kids).sz (.returned (.bool false)) W') :=
        Lib.hid fun h W' hb => ⟨false, rfl, by simp [sz_no HR.out HK.out h], hb⟩
      have hbw : Hid (Below w.heap.size w (wr.alloc (.cells #[.int .i64 r.kind, .int .i64 r.w, .int .i64 r.h, .int .i64 r.id, .slice sa r.kids.length sc] 88))) := Lib.hid (HL.out.bel.alloc (by omega) _)
      by_cases e1 : r.kind = k
      · have e1' : (r.kind == k) = true := by simpa using e1
        go_wp2_with fail
        go_ret
        exact hno.out (fun h => h.1 e1) _ (HL.out.bel.alloc (by omega) _)
      · have e1' : (r.kind == k) = false := by simpa using e1
        by_cases e2 : W < r.w
        · go_wp2_with fail
          go_ret
          exact hno.out (fun h => by have := h.2.1; omega) _ (HL.out.bel.alloc (by omega) _)
        · by_cases e3 : H < r.h
          · go_wp2_with fail
            go_ret
            exact hno.out (fun h => by have := h.2.2.1; omega) _ (HL.out.bel.alloc (by omega) _)
          · have hC2 := HC.out (by omega) (by omega) _ ((Below.refl wr.heap.size wr).alloc (Nat.le_refl _) (.cells #[.int .i64 r.kind, .int .i64 r.w, .int .i64 r.h, .int .i64 r.id, .slice sa r.kids.length sc] 88))
            have HC2 := Lib.hid hC2; clear hC2 HC
            go_wp2_with fail
            have hbx := heap_alloc_new wr (.cells #[.int .i64 r.kind, .int .i64 r.w, .int .i64 r.h, .int .i64 r.id, .slice sa r.kids.length sc] 88)
            have hb4 := blk_alloc HL.out.box (.cells #[.int .i64 r.kind, .int .i64 r.w, .int .i64 r.h, .int .i64 r.id, .slice sa r.kids.length sc] 88)
            have hs4 : w.heap.size ≤ (wr.alloc (.cells #[.int .i64 r.kind, .int .i64 r.w, .int .i64 r.h, .int .i64 r.id, .slice sa r.kids.length sc] 88)).heap.size := hbw.out.size
            generalize (wr.alloc (.cells #[.int .i64 r.kind, .int .i64 r.w, .int .i64 r.h, .int .i64 r.id, .slice sa r.kids.length sc] 88)) = w4 at *
            refine HC2.out.mono ?_
            rintro e w5 ⟨bz, rfl, hbz, hb5⟩
            have hbx5 := blk_below hbx hb5
            have hb05 := blk_below hb4 hb5
            have hbel5 : Below w.heap.size w w5 := hbw.out.trans (hb5.mono hs4)
            clear c0 c1 c2 c3 c4 k0 k1 k2 k3 k4 hbx hb4 HC2
            have c0 : w5.cell? ⟨w.heap.size, 0, none⟩ = some (.int .i64 k) := blk_cell hb05 0
            have c1 : w5.cell? ⟨w.heap.size, 1, none⟩ = some (.int .i64 W) := blk_cell hb05 1
            have c2 : w5.cell? ⟨w.heap.size, 2, none⟩ = some (.int .i64 H) := blk_cell hb05 2
            have k0 : w5.cell? ⟨wr.heap.size, 0, none⟩ = some (.int .i64 r.kind) := blk_cell hbx5 0
            have k1 : w5.cell? ⟨wr.heap.size, 1, none⟩ = some (.int .i64 r.w) := blk_cell hbx5 1
            have k2 : w5.cell? ⟨wr.heap.size, 2, none⟩ = some (.int .i64 r.h) := blk_cell hbx5 2
            have k3 : w5.cell? ⟨wr.heap.size, 3, none⟩ = some (.int .i64 r.id) := blk_cell hbx5 3
            have k4 : w5.cell? ⟨wr.heap.size, 4, none⟩ = some (.slice sa r.kids.length sc) := blk_cell hbx5 4
            have HBX5 := Lib.hid hbx5; have HB05 := Lib.hid hb05; have HBEL5 := Lib.hid hbel5; have HBZ := Lib.hid hbz
            clear hbx5 hb05 hbel5 hbz hb5
            cases bz with
            | false =>
              go_wp2_with fail
              go_ret
              exact hno.out (fun h => by have := HBZ.out.2 h.2.2.2.1; cases this) _ HBEL5.out
            | true =>
              have hext := rext_any r.kind r.w r.h r.id k sa r.kids.length sc w5
              have HEXT := Lib.hid hext; clear hext
              have fin : Hid (r.ext (5 - k) = ext (5 - k) W H → ∀ w6 s', Below w5.heap.size w5 w6 → s' = s + ext k r.w r.h → RSzLoop w #[.int .i64 k, .int .i64 W, .int .i64 H, .int .i64 0, .slice (some ⟨b, off, none⟩) m cap] k W H kids (j + 1) s' w6) := by
                refine Lib.hid fun hx w6 s' h6 hs' => ⟨?_, ?_, HBEL5.out.trans (h6.mono HBEL5.out.size), blk_below HB05.out h6⟩
                · rw [take_snoc' HR.out]
                  exact (szL_app _ _).2 ⟨HL.out.sz, ⟨e1, by omega, by omega, HBZ.out.1 rfl, hx⟩, trivial⟩
                · rw [take_snoc' HR.out, spanL_app, hs', HL.out.sum]
                  simp only [spanL, R.ext]
                  omega
              have hbd : -2000000 ≤ ext k r.w r.h ∧ ext k r.w r.h ≤ 1000 := by
                have h1 := HBZ.out.1 rfl
                cases r
                simp only [R.sz] at h1
                simp only [R.w, R.h] at *
                unfold ext; split <;> omega
              obtain ⟨hbd1, hbd2⟩ := hbd
              generalize ext k r.w r.h = ev at *
              by_cases hk2 : k = 2
              · have e5 : (k == 2) = true := by simpa using hk2
                have HK2 := Lib.hid hk2; clear hk2
                by_cases e4 : r.h = H
                · have e4' : (r.h == H) = true := by simpa using e4
                  have E4 := Lib.hid e4; clear e4
                  have hx2 := HEXT.out
                  rw [E4.out] at hx2
                  have HX2 := Lib.hid hx2; clear hx2
                  go_wp2_with fail
                  refine HX2.out.mono ?_
                  rintro e w6 ⟨rfl, hb6⟩
                  have HB6 := Lib.hid hb6; clear hb6
                  go_wp2_with fail
                  exact ⟨⟨_, j + 1, hlt, num_succ j, rfl, fin.out (by rw [HK2.out]; simpa [R.ext, ext] using E4.out) _ _ HB6.out rfl⟩, meas_lt hlt⟩
                · have e4' : (r.h == H) = false := by simpa using e4
                  go_wp2_with fail
                  go_ret
                  exact hno.out (fun h => e4 (by have := h.2.2.2.2; rw [HK2.out] at this; simpa [R.ext, ext] using this)) _ HBEL5.out
              · have hk3 : k = 3 := by have := HK.out; omega
                have e5 : (k == 2) = false := by simpa using hk2
                have e6 : (k == 3) = true := by simpa using hk3
                have HK3 := Lib.hid hk3; clear hk3 hk2
                by_cases e4 : r.w = W
                · have e4' : (r.w == W) = true := by simpa using e4
                  have E4 := Lib.hid e4; clear e4
                  have hx2 := HEXT.out
                  rw [E4.out] at hx2
                  have HX2 := Lib.hid hx2; clear hx2
                  go_wp2_with fail
                  refine HEXT.out.mono ?_
                  rintro e w6 ⟨rfl, hb6⟩
                  have HB6 := Lib.hid hb6; clear hb6
                  go_wp2_with fail
                  exact ⟨⟨_, j + 1, hlt, num_succ j, rfl, fin.out (by rw [HK3.out]; simpa [R.ext, ext] using E4.out) _ _ HB6.out rfl⟩, meas_lt hlt⟩
                · have e4' : (r.w == W) = false := by simpa using e4
                  go_wp2_with fail
                  go_ret
                  exact hno.out (fun h => e4 (by have := h.2.2.2.2; rw [HK3.out] at this; simpa [R.ext, ext] using this)) _ HBEL5.out
    · have hext := rext_any k W H 0 k a m cap wr
      have HEXT := Lib.hid hext; have HL := Lib.hid hL; clear hext hL
      go_wp2_with fail
      refine HEXT.out.mono ?_
      rintro e w6 ⟨rfl, hb6⟩
      have HB6 := Lib.hid hb6; clear hb6
      go_wp2_with fail
      go_ret
      have h1 := HL.out.sz
      have h2 := HL.out.sum
      rw [List.take_of_length_le (by have := hm.out; omega)] at h1 h2
      have hjm : (j : Int) = kids.length := by have := hm.out; omega
      refine ⟨_, rfl, ?_, HL.out.bel.trans (HB6.out.mono HL.out.bel.size)⟩
      simp only [R.sz, beq_iff_eq]
      constructor
      · intro h; exact ⟨⟨hw1, hh1⟩, .inr ⟨HK.out, trivial, by have := hm.out; omega, h1, by omega⟩⟩
      · rintro ⟨_, ⟨rfl, _⟩ | ⟨_, _, _, _, h⟩⟩
        · have := HK.out; omega
        · omega

set_option maxRecDepth 100000 in
theorem rsz_leaf (W H id : Int) (m : Nat) (a : Option Addr) (cap : Nat) (w : World) (hw1 : 1 ≤ W) (hh1 : 1 ≤ H) (hm : m ≤ 1000) : Calls Try.prog 125 #[.agg #[.int .i64 1, .int .i64 W, .int .i64 H, .int .i64 id, .slice a m cap]] w fun e w' => SzPost w (m = 0 ∧ 1 ≤ id ∧ id ≤ 4611686018427387904) e w' := by
  have b1 : ¬ W < 1 := by omega
  have b2 : ¬ H < 1 := by omega
  by_cases h0 : m = 0
  · subst h0
    by_cases h1 : 1 ≤ id
    · by_cases h2 : id ≤ 4611686018427387904
      · go_enter Try.func125, Try.ntmps125
        go_wp2_with fail
        go_ret
        exact ⟨true, rfl, by simp [h1, h2], (Below.refl _ _).alloc (Nat.le_refl _) _⟩
      · go_enter Try.func125, Try.ntmps125
        go_wp2_with fail
        go_ret
        exact ⟨false, rfl, ⟨fun h => (by cases h), fun h => (by omega)⟩, (Below.refl _ _).alloc (Nat.le_refl _) _⟩
    · go_enter Try.func125, Try.ntmps125
      go_wp2_with fail
      go_ret
      exact ⟨false, rfl, ⟨fun h => (by cases h), fun h => (by omega)⟩, (Below.refl _ _).alloc (Nat.le_refl _) _⟩
  · have h0' : ((m : Int) == 0) = false := by simp; omega
    have HM := Lib.hid h0; clear h0
    go_enter Try.func125, Try.ntmps125
    go_wp2_with fail
    go_ret
    exact ⟨false, rfl, by simp [HM.out], (Below.refl _ _).alloc (Nat.le_refl _) _⟩

/-- A node that fails at once. -/
theorem rsz_bad (k W H id : Int) (m : Nat) (a : Option Addr) (cap : Nat) (w : World) (h : W < 1 ∨ (¬ W < 1 ∧ (H < 1 ∨ (¬ H < 1 ∧ (k < 1 ∨ (¬ k < 1 ∧ 3 < k)))))) : Calls Try.prog 125 #[.agg #[.int .i64 k, .int .i64 W, .int .i64 H, .int .i64 id, .slice a m cap]] w fun e w' => e = .returned (.bool false) ∧ Below w.heap.size w w' := by
  rcases h with h | ⟨h, h1 | ⟨h1, h2 | ⟨h2, h3⟩⟩⟩
  all_goals
    go_enter Try.func125, Try.ntmps125
    go_wp2_with fail
    go_ret
    exact ⟨rfl, (Below.refl _ _).alloc (Nat.le_refl _) _⟩

/-- A row or column that has no two children, or an id. -/
theorem rsz_few (k W H id : Int) (m : Nat) (a : Option Addr) (cap : Nat) (w : World) (hw1 : ¬ W < 1) (hh1 : ¬ H < 1) (hk1 : ¬ k < 1) (hk3 : ¬ 3 < k) (hk : (k == 1) = false) (hm : m ≤ 1000) (h : (m : Int) < 2 ∨ (¬ (m : Int) < 2 ∧ (id == 0) = false)) : Calls Try.prog 125 #[.agg #[.int .i64 k, .int .i64 W, .int .i64 H, .int .i64 id, .slice a m cap]] w fun e w' => e = .returned (.bool false) ∧ Below w.heap.size w w' := by
  rcases h with h | ⟨h, h1⟩
  · go_enter Try.func125, Try.ntmps125
    go_wp2_with fail
    go_ret
    exact ⟨rfl, (Below.refl _ _).alloc (Nat.le_refl _) _⟩
  · have h2 : ¬ id = 0 := by simpa using h1
    go_enter Try.func125, Try.ntmps125
    go_wp2_with fail
    go_ret
    exact ⟨rfl, (Below.refl _ _).alloc (Nat.le_refl _) _⟩

theorem rsz_any (n : Nat) : RSzSaid n := by
  induction n with
  | zero =>
    intro r v w hd
    cases r
    simp [R.depth] at hd
  | succ n ih =>
    intro r v w hdep hr hc hrw hrh
    cases r with
    | mk k W H id kids =>
      obtain ⟨a, cap, rfl, h1, h2, h3⟩ := hr.open
      simp only [R.depth] at hdep
      simp only [R.cnt] at hc
      simp only [R.w, R.h] at hrw hrh
      have hlk := cntL_length kids
      have hno : ∀ {e w'}, (e = .returned (.bool false) ∧ Below w.heap.size w w') → ¬ (R.mk k W H id kids).sz → SzPost w (R.mk k W H id kids).sz e w' := fun ⟨h, hb⟩ hn => ⟨false, h, by simp [hn], hb⟩
      by_cases hbad : W < 1 ∨ (¬ W < 1 ∧ (H < 1 ∨ (¬ H < 1 ∧ (k < 1 ∨ (¬ k < 1 ∧ 3 < k)))))
      · exact (rsz_bad k W H id _ a cap w hbad).mono fun e w' h => hno h (by simp only [R.sz]; omega)
      · by_cases hk : k = 1
        · subst hk
          refine (rsz_leaf W H id kids.length a cap w (by omega) (by omega) (by omega)).mono fun e w' ⟨b, e1, e2, e3⟩ => ⟨b, e1, ?_, e3⟩
          rw [e2]
          simp only [R.sz]
          constructor
          · rintro ⟨x1, x2⟩; exact ⟨⟨by omega, by omega⟩, .inl ⟨trivial, List.eq_nil_of_length_eq_zero x1, x2⟩⟩
          · rintro ⟨_, ⟨_, rfl, x2⟩ | ⟨x, _⟩⟩
            · exact ⟨rfl, x2⟩
            · omega
        · by_cases hf : (kids.length : Int) < 2 ∨ (¬ (kids.length : Int) < 2 ∧ (id == 0) = false)
          · refine (rsz_few k W H id _ a cap w (by omega) (by omega) (by omega) (by omega) (by simpa using hk) (by omega) hf).mono fun e w' h => hno h ?_
            simp only [R.sz]
            rintro ⟨_, ⟨x, _⟩ | ⟨_, x, y, _⟩⟩
            · exact hk x
            · rcases hf with hf | ⟨_, hf⟩
              · omega
              · simp [x] at hf
          · have hid : id = 0 := by
              by_cases hz : id = 0
              · exact hz
              · exact absurd (.inr ⟨by omega, by simpa using hz⟩) hf
            exact rsz_node n ih k W H id kids kids.length a cap w (by omega) hid (by omega) (by omega) hrw (by omega) hrh (Nat.le_of_succ_le_succ hdep) rfl (by omega) h1 h2 h3 hc

end Go.Proofs.Ytpehceccnjdfeaa
