/- The reference's lay, List and New. -/
import Derived.Test.YtpehceccnjdfeaaF0
namespace Go.Proofs.Ytpehceccnjdfeaa
open Go.RowKit

/-- A list of the call's own. -/
def CellsPost (w : World) (l : List Cl) (e : Ending) (w' : World) : Prop := ∃ u, e = .returned u ∧ Owned w' w.heap.size u l ∧ Below w.heap.size w w'

def RLaySaid (n : Nat) : Prop := ∀ (r : R) (d x y : Int) (v : Value) (w : World), r.depth ≤ n → NRep w v r → r.cnt ≤ 1000 → 0 ≤ d → d + r.cnt ≤ 100000 → 0 ≤ x → x + 1001 * r.cnt ≤ 10000000 → 0 ≤ y → y + 1001 * r.cnt ≤ 10000000 → r.Bd 0 1000 →
  Calls Try.prog 115 #[v, .int .i64 d, .int .i64 x, .int .i64 y] w fun e w' => CellsPost w (r.lay d x y) e w'

structure RLayLoop (w : World) (B0 : Nat) (bv : Array Value) (c : Cl) (k d x y : Int) (kids : List R) (j : Nat) (v : Value) (wr : World) : Prop where
  own : Owned wr w.heap.size v (c :: layL k d x y (kids.take j))
  bel : Below w.heap.size w wr
  box : wr.heap[B0]? = some (.cells bv 88 (0, 0))

theorem owned_slice {w : World} {B : Nat} {v : Value} {l : List Cl} (h : Owned w B v l) : ∃ a c, v = .slice a l.length c := by
  unfold Owned at h
  generalize l.length = n at h
  rcases h.2 with ⟨rfl, rfl⟩ | ⟨g, cap, cur, rfl, _⟩
  · exact ⟨none, 0, rfl⟩
  · exact ⟨_, _, rfl⟩

theorem cvals_one_cell (l : List Cl) : ∀ v ∈ cvals l, v.oneCell' = true := by
  intro v hv
  simp only [cvals, List.mem_flatMap] at hv
  obtain ⟨c, _, hv⟩ := hv
  simp only [Cl.vals, List.mem_cons, List.not_mem_nil, or_false] at hv
  rcases hv with rfl | rfl | rfl | rfl | rfl | rfl | rfl <;> rfl

theorem rlay_facts {n : Nat} (ih : RLaySaid n) {w wr : World} {a : Option Addr} {k d x y : Int} {kids : List R} {j m : Nat} (hdep : depthL kids ≤ n) (hm : m = kids.length) (hbel : Below w.heap.size w wr)
    (hat : kids ≠ [] → ∃ b off, a = some ⟨b, off, none⟩ ∧ ∀ j r, kids[j]? = some r → NAt w b (off + j * 5) r) (hcnt : cntL kids + 1 ≤ 1000) (hd0 : 0 ≤ d) (hd : d + (cntL kids + 1 : Nat) ≤ 100000) (hx0 : 0 ≤ x) (hx : x + 1001 * (cntL kids + 1 : Nat) ≤ 10000000) (hy0 : 0 ≤ y) (hy : y + 1001 * (cntL kids + 1 : Nat) ≤ 10000000) (hbd : BdL 0 1000 kids)
    (hlt : j < m) : ∃ (b off : Nat) (r : R) (sa : Option Addr) (sc : Nat), a = some ⟨b, off, none⟩ ∧ kids[j]? = some r ∧ wr.cell? ⟨b, off + j * 5, none⟩ = some (.int .i64 r.kind) ∧ wr.cell? ⟨b, off + j * 5 + 1, none⟩ = some (.int .i64 r.w) ∧
      wr.cell? ⟨b, off + j * 5 + 2, none⟩ = some (.int .i64 r.h) ∧ wr.cell? ⟨b, off + j * 5 + 3, none⟩ = some (.int .i64 r.id) ∧ wr.cell? ⟨b, off + j * 5 + 4, none⟩ = some (.slice sa r.kids.length sc) ∧
      (0 ≤ nextX k x (kids.take j) ∧ nextX k x (kids.take j) ≤ 10000000 ∧ 0 ≤ nextY k y (kids.take j) ∧ nextY k y (kids.take j) ≤ 10000000 ∧ 0 ≤ r.w ∧ r.w ≤ 1000 ∧ 0 ≤ r.h ∧ r.h ≤ 1000) ∧ (layL k (d + 1) x y (kids.take j)).length + (r.lay (d + 1) (nextX k x (kids.take j)) (nextY k y (kids.take j))).length ≤ 1000 ∧
      0 < (r.lay (d + 1) (nextX k x (kids.take j)) (nextY k y (kids.take j))).length ∧
      ∀ W, Below wr.heap.size wr W → Calls Try.prog 115 #[.agg #[.int .i64 r.kind, .int .i64 r.w, .int .i64 r.h, .int .i64 r.id, .slice sa r.kids.length sc], .int .i64 (d + 1), .int .i64 (nextX k x (kids.take j)), .int .i64 (nextY k y (kids.take j))] W fun e w' => CellsPost W (r.lay (d + 1) (nextX k x (kids.take j)) (nextY k y (kids.take j))) e w' := by
  obtain ⟨r, hr⟩ : ∃ r, kids[j]? = some r := ⟨kids[j]'(by omega), by simp⟩
  obtain ⟨b, off, ha, hA⟩ := hat (by rintro rfl; simp at hr)
  obtain ⟨_, ⟨sa, sc, rfl⟩, h1, h2, h3, h4, h5, h6⟩ := ((hA j r hr).below hbel).rep
  have hs := take_split hr
  have hbd1 : BdL 0 1000 (kids.take j) := by rw [hs, BdL_append] at hbd; exact hbd.1
  have hmem := List.mem_of_getElem? hr
  have hbdr := BdL_mem hbd hmem
  have hcnt2 : cntL kids = cntL (kids.take j) + (r.cnt + cntL (kids.drop (j + 1))) := by
    have := congrArg cntL hs
    rw [cntL_append] at this
    simpa [cntL] using this
  have b1 := next_bd (k := k) (kids.take j) x hbd1
  have b2 := nexty_bd (k := k) (kids.take j) y hbd1
  have hwh : 0 ≤ r.w ∧ r.w ≤ 1000 ∧ 0 ≤ r.h ∧ r.h ≤ 1000 := by cases r; simp only [R.Bd] at hbdr; exact ⟨hbdr.1, hbdr.2.1, hbdr.2.2.1, hbdr.2.2.2.1⟩
  have hpos := cnt_pos r
  refine ⟨b, off, r, sa, sc, ha, hr, h2, h3, h4, h5, h6, ⟨by omega, by omega, by omega, by omega, hwh⟩, ?_, ?_, ?_⟩
  · rw [layL_length, R.lay_length]; omega
  · rw [R.lay_length]; exact hpos
  · intro W hW
    exact ih r (d + 1) _ _ _ W (Nat.le_trans (depth_mem hmem) hdep) (h1.below hW) (by omega) (by omega) (by omega) (by omega) (by omega) (by omega) (by omega) hbdr

set_option maxRecDepth 100000 in
set_option maxHeartbeats 1000000 in
theorem rlay_node (n : Nat) (ih : Hid (RLaySaid n)) (k W H id d x y : Int) (kids : List R) (m : Nat) (a : Option Addr) (cap : Nat) (w : World) (hdep : Hid (depthL kids ≤ n)) (hm : Hid (m = kids.length)) (hm1 : m ≤ 1000) (hm2 : m ≤ cap) (hcap : cap ≤ maxLen)
    (hat : Hid (kids ≠ [] → ∃ b off, a = some ⟨b, off, none⟩ ∧ ∀ j r, kids[j]? = some r → NAt w b (off + j * 5) r)) (hcnt : Hid (cntL kids + 1 ≤ 1000)) (hd0 : 0 ≤ d) (hd : d + (cntL kids + 1 : Nat) ≤ 100000) (hx0 : 0 ≤ x) (hx : x + 1001 * (cntL kids + 1 : Nat) ≤ 10000000) (hy0 : 0 ≤ y) (hy : y + 1001 * (cntL kids + 1 : Nat) ≤ 10000000) (hbd : Hid (BdL 0 1000 kids)) :
    Calls Try.prog 115 #[.agg #[.int .i64 k, .int .i64 W, .int .i64 H, .int .i64 id, .slice a m cap], .int .i64 d, .int .i64 x, .int .i64 y] w fun e w' => CellsPost w ((R.mk k W H id kids).lay d x y) e w' := by
  obtain ⟨i0, hi0, hz0, hz1, hz2⟩ := info_parts info53
  have Hi := Lib.hid hi0; have Hz0 := Lib.hid hz0; have Hz1 := Lib.hid hz1; have Hz2 := Lib.hid hz2
  clear hi0 hz0 hz1 hz2
  go_enter Try.func115, Try.ntmps115
  go_wp2_with fail
  go_loopw [2, 3, 9, 10] (fun X Y v i wr => ∃ j : Nat, j ≤ m ∧ i = .int .i64 j ∧ X = .int .i64 (nextX k x (kids.take j)) ∧ Y = .int .i64 (nextY k y (kids.take j)) ∧ RLayLoop w w.heap.size #[.int .i64 k, .int .i64 W, .int .i64 H, .int .i64 id, .slice a m cap] ⟨d, k, x, y, W, H, id⟩ k (d + 1) x y kids j v wr) (fun _ _ _ i _ => m - (intOf i).toNat)
  case atStart =>
    refine ⟨0, Nat.zero_le _, rfl, rfl, rfl, ?_, ?_, ?_⟩
    · have := World.ownsRow_lit (base := w.heap.size) (e := 53) (size := 7) (w.alloc (.cells #[.int .i64 k, .int .i64 W, .int .i64 H, .int .i64 id, .slice a m cap] 88)) (Cl.vals ⟨d, k, x, y, W, H, id⟩).toArray 1 (by simp) (by unfold maxLen; omega) (by rfl)
      simpa [Owned, layL, cvals_one, Cl.vals] using this
    · exact ((Below.refl _ _).alloc (Nat.le_refl _) _).alloc (by simp) _
    · exact blk_alloc (heap_alloc_new w _) _
  case round =>
    obtain ⟨j, hj, rfl, rfl, rfl, hL⟩ := hrel
    have c4 : wr.cell? ⟨w.heap.size, 4, none⟩ = some (.slice a m cap) := blk_cell hL.box 4
    by_cases hlt : j < m
    · obtain ⟨b, off, r, sa, sc, rfl, hr, k0, k1, k2, k3, k4, ⟨x1, x2, y1, y2, w1, w2, h1, h2⟩, hlen, hpos, hC⟩ := rlay_facts (k := k) ih.out hdep.out hm.out hL.bel hat.out hcnt.out hd0 hd hx0 hx hy0 hy hbd.out hlt
      obtain ⟨va, vc, hv⟩ := owned_slice hL.own
      generalize hnn : ((⟨d, k, x, y, W, H, id⟩ : Cl) :: layL k (d + 1) x y (kids.take j)).length = nn at hv
      subst hv
      have HX : Hid (nextX k x (kids.take (j + 1)) = if k = 2 then nextX k x (kids.take j) + r.w + 1 else nextX k x (kids.take j)) := by rw [take_snoc' hr]; exact nextX_snoc _ _ _ _
      have HY : Hid (nextY k y (kids.take (j + 1)) = if k = 2 then nextY k y (kids.take j) else nextY k y (kids.take j) + r.h + 1) := by rw [take_snoc' hr]; exact nextY_snoc _ _ _ _
      have HLY : Hid (layL k (d + 1) x y (kids.take (j + 1)) = layL k (d + 1) x y (kids.take j) ++ r.lay (d + 1) (nextX k x (kids.take j)) (nextY k y (kids.take j))) := Lib.hid (by rw [take_snoc' hr, layL_append]; simp [layL])
      have hb0 : w.heap.size < wr.heap.size := blk_lt hL.box
      obtain ⟨hown, hbel, hbox⟩ := hL
      have HOWN := Lib.hid hown; have HBEL := Lib.hid hbel; have HBOX := Lib.hid hbox; have HC := Lib.hid hC
      clear hown hbel hbox hC hr hat
      generalize nextX k x (kids.take j) = X at *
      generalize nextY k y (kids.take j) = Y at *
      generalize r.lay (d + 1) X Y = ly at *
      generalize layL k (d + 1) x y (kids.take j) = l0 at *
      have hl2 : nn + ly.length ≤ 1001 := by rw [← hnn, List.length_cons]; omega
      have HNN := Lib.hid hnn; clear hnn hlen
      go_wp2_with fail
      have hbx := heap_alloc_new wr (.cells #[.int .i64 r.kind, .int .i64 r.w, .int .i64 r.h, .int .i64 r.id, .slice sa r.kids.length sc] 88)
      have hbw : Below wr.heap.size wr (wr.alloc (.cells #[.int .i64 r.kind, .int .i64 r.w, .int .i64 r.h, .int .i64 r.id, .slice sa r.kids.length sc] 88)) := (Below.refl _ _).alloc (Nat.le_refl _) _
      generalize (wr.alloc (.cells #[.int .i64 r.kind, .int .i64 r.w, .int .i64 r.h, .int .i64 r.id, .slice sa r.kids.length sc] 88)) = w4 at *
      refine (HC.out _ hbw).mono ?_
      rintro e w2 ⟨u2, rfl, o2, hb2⟩
      obtain ⟨g2, cap2, rfl, hg2, _⟩ := World.ownsRow.form o2 hpos
      have hb12 : Below wr.heap.size wr w2 := hbw.trans (hb2.mono hbw.size)
      have hown2 := ownsRow_upd HOWN.out (Upd.of_below (fun _ => False) hb12) (by simp)
      rw [HNN.out] at hown2
      have hbox2 := blk_below HBOX.out hb12
      have hbx2 := blk_below hbx hb2
      have s1 := blk_lt hbox2
      have s2 := blk_lt hbx2
      have HOWN2 := Lib.hid hown2; have HBOX2 := Lib.hid hbox2; have HBX2 := Lib.hid hbx2; have HB12 := Lib.hid hb12; have HO2 := Lib.hid o2
      clear hown2 hbox2 hbx2 hb12 o2 hbx hbw hb2 c4 k0 k1 k2 k3 k4
      have hsz := HBEL.out.size
      have hsz2 := HB12.out.size
      go_wp2_with (at_builtin; go_must (refine wpList_append_lies _ rfl (.tmp 37) (.tmp 43) 22 rfl w.heap.size 53 i0 _ 7 56 Try.underlying22 Hi.out Hz0.out Hz1.out Hz2.out rfl (by decide) (.slice va nn vc) _ _ rfl HOWN2.out ⟨g2, 0, none⟩ ly.length cap2 (cvals ly) rfl (by rw [cvals_length]) (HO2.out.cells rfl) (cvals_one_cell _) hpos (by unfold maxLen; omega) (by omega) (by omega) w2.heap.size rfl ?_); intro g3 cap3 w3 hown3 hgrow3 hat3 hlt3; have hb3 := (hgrow3.block _ s1 (ownsRow_ne HOWN2.out HBOX2.out (by decide)).symm).trans HBOX2.out; have hx3 := (hgrow3.block _ s2 (ownsRow_ne HOWN2.out HBX2.out (by decide)).symm).trans HBX2.out; have c0 : w3.cell? ⟨w.heap.size, 0, none⟩ = some (.int .i64 k) := blk_cell hb3 0; have d1 : w3.cell? ⟨wr.heap.size, 1, none⟩ = some (.int .i64 r.w) := blk_cell hx3 1; have d2 : w3.cell? ⟨wr.heap.size, 2, none⟩ = some (.int .i64 r.h) := blk_cell hx3 2; have Hown3 := Lib.hid hown3; have Hgrow3 := Lib.hid hgrow3; have HB3 := Lib.hid hb3; clear hown3 hgrow3 hb3 hx3)
      all_goals
        have hL3 : RLayLoop w w.heap.size #[.int .i64 k, .int .i64 W, .int .i64 H, .int .i64 id, .slice (some ⟨b, off, none⟩) m cap] ⟨d, k, x, y, W, H, id⟩ k (d + 1) x y kids (j + 1) (.slice (some ⟨g3, 0, none⟩) (nn + ly.length) cap3) w3 := by
          refine ⟨?_, (HBEL.out.trans (HB12.out.mono HBEL.out.size)).grown Hgrow3.out (by omega) (fun q hq => (World.ownsRow.lt HOWN2.out q hq).1), HB3.out⟩
          rw [HLY.out]
          have := Hown3.out
          unfold Owned
          rw [List.length_cons, List.length_append, show l0.length + ly.length + 1 = nn + ly.length by have := HNN.out; rw [List.length_cons] at this; omega]
          simpa [cvals_append, cvals] using this
      · have h2 : k = 2 := by simpa using ‹(k == 2) = true›
        exact ⟨⟨j + 1, hlt, num_succ j, int_eq (by rw [HX.out, if_pos h2, Int.add_assoc]), int_eq (by rw [HY.out, if_pos h2]), hL3⟩, meas_lt hlt⟩
      · have h2 : ¬ k = 2 := by simpa using ‹(k == 2) = false›
        exact ⟨⟨j + 1, hlt, num_succ j, int_eq (by rw [HX.out, if_neg h2]), int_eq (by rw [HY.out, if_neg h2, Int.add_assoc]), hL3⟩, meas_lt hlt⟩
    · obtain ⟨hown, hbel, _⟩ := hL
      rw [List.take_of_length_le (by have := hm.out; omega)] at hown
      have HOWN := Lib.hid hown; have HBEL := Lib.hid hbel
      clear hown hbel
      go_wp2_with fail
      go_ret
      exact ⟨_, rfl, by simpa [R.lay] using HOWN.out, HBEL.out⟩

theorem rlay_any (n : Nat) : RLaySaid n := by
  induction n with
  | zero =>
    intro r d x y v w hd
    cases r
    simp [R.depth] at hd
  | succ n ih =>
    intro r d x y v w hdep hr hc hd0 hd hx0 hx hy0 hy hbd
    cases r with
    | mk k W H id kids =>
      obtain ⟨a, cap, rfl, h1, h2, h3⟩ := hr.open
      simp only [R.depth] at hdep
      simp only [R.cnt] at hc hd hx hy
      have := cntL_length kids
      exact rlay_node n ih k W H id d x y kids kids.length a cap w (Nat.le_of_succ_le_succ hdep) rfl (by omega) h1 h2 h3 hc hd0 (by omega) hx0 (by omega) hy0 (by omega) hbd.2.2.2.2

theorem ownsRow_mono' {w : World} {base base' : Nat} {v : Value} {l : List Cl} (h : Owned w base v l) (hb : base' ≤ base) : Owned w base' v l := by
  unfold Owned World.ownsRow at *
  refine ⟨h.1, ?_⟩
  rcases h.2 with h0 | ⟨g, cap, cur, h1, h2, h3⟩
  · exact .inl h0
  · exact .inr ⟨g, cap, cur, h1, Nat.le_trans hb h2, h3⟩

/-- List. -/
theorem rlist_any (r : R) (v : Value) (w : World) (hr : NRep w v r) (hc : r.cnt ≤ 1000) (hbd : r.Bd 0 1000) : Calls Try.prog 65 #[v] w fun e w' => CellsPost w (r.lay 0 0 0) e w' := by
  obtain ⟨k, W, H, i, kids⟩ := r
  obtain ⟨a, cap, rfl, h1, h2, h3⟩ := hr.open
  have hC : ∀ W', Below w.heap.size w W' → Calls Try.prog 115 #[.agg #[.int .i64 k, .int .i64 W, .int .i64 H, .int .i64 i, .slice a kids.length cap], .int .i64 0, .int .i64 0, .int .i64 0] W' fun e w' => CellsPost W' ((R.mk k W H i kids).lay 0 0 0) e w' := by
    intro W' hW
    exact rlay_any _ _ 0 0 0 _ W' (Nat.le_refl _) (hr.below hW) hc (by omega) (by omega) (by omega) (by omega) (by omega) (by omega) hbd
  have HC := Lib.hid hC
  clear hC hr h3 hbd
  unfold nval
  go_enter Try.func65, Try.ntmps65
  go_wp2_with fail
  refine (HC.out _ ((Below.refl _ _).alloc (Nat.le_refl _) _)).mono ?_
  rintro e w2 ⟨u, rfl, o2, hb2⟩
  have HO := Lib.hid o2; have HB := Lib.hid hb2; clear o2 hb2
  go_wp2_with fail
  go_ret
  exact ⟨u, rfl, ownsRow_mono' HO.out (by simp), ((Below.refl w.heap.size w).alloc (Nat.le_refl _) _).trans (HB.out.mono (by simp))⟩

end Go.Proofs.Ytpehceccnjdfeaa
