/- The reference's Ids, has, extent. -/
import Derived.Test.YtpehceccnjdfeaaF1
import Derived.Test.YtpehceccnjdfeaaC4
import Derived.Laws.AppendOwnNone
namespace Go.Proofs.Ytpehceccnjdfeaa
open Go.RowKit

theorem idsL_app (l m : List R) : idsL (l ++ m) = idsL l ++ idsL m := by
  induction l with
  | nil => rfl
  | cons a l ih => simp [idsL, ih]

mutual
theorem ids_cnt : ∀ (r : R), r.ids.length ≤ r.cnt
  | .mk k w h i kids => by
    simp only [R.ids, R.cnt]
    have := idsL_cnt kids
    split
    · simp
    · omega
theorem idsL_cnt : ∀ (l : List R), (idsL l).length ≤ cntL l
  | [] => by simp [idsL]
  | r :: rs => by have := ids_cnt r; have := idsL_cnt rs; simp only [idsL, List.length_append, cntL]; omega
end

def RIdsSaid (n : Nat) : Prop := ∀ (r : R) (v : Value) (w : World), r.depth ≤ n → NRep w v r → r.cnt ≤ 1000 → Calls Try.prog 79 #[v] w fun e w' => IntsPost w r.ids e w'

structure RIdsLoop (w : World) (bv : Array Value) (kids : List R) (j : Nat) (v : Value) (wr : World) : Prop where
  own : wr.ownsRow w.heap.size 3 1 v (idsL (kids.take j)).length (ints (idsL (kids.take j)))
  bel : Below w.heap.size w wr
  box : wr.heap[w.heap.size]? = some (.cells bv 88 (0, 0))

theorem rids_facts {n : Nat} (ih : RIdsSaid n) {w wr : World} {a : Option Addr} {kids : List R} {j m : Nat} (hdep : depthL kids ≤ n) (hm : m = kids.length) (hbel : Below w.heap.size w wr)
    (hat : kids ≠ [] → ∃ b off, a = some ⟨b, off, none⟩ ∧ ∀ j r, kids[j]? = some r → NAt w b (off + j * 5) r) (hcnt : cntL kids + 1 ≤ 1000)
    (hlt : j < m) : ∃ (b off : Nat) (r : R) (sa : Option Addr) (sc : Nat), a = some ⟨b, off, none⟩ ∧ kids[j]? = some r ∧ wr.cell? ⟨b, off + j * 5, none⟩ = some (.int .i64 r.kind) ∧ wr.cell? ⟨b, off + j * 5 + 1, none⟩ = some (.int .i64 r.w) ∧
      wr.cell? ⟨b, off + j * 5 + 2, none⟩ = some (.int .i64 r.h) ∧ wr.cell? ⟨b, off + j * 5 + 3, none⟩ = some (.int .i64 r.id) ∧ wr.cell? ⟨b, off + j * 5 + 4, none⟩ = some (.slice sa r.kids.length sc) ∧
      (idsL (kids.take j)).length + r.ids.length ≤ 1000 ∧ Calls Try.prog 79 #[.agg #[.int .i64 r.kind, .int .i64 r.w, .int .i64 r.h, .int .i64 r.id, .slice sa r.kids.length sc]] wr fun e w' => IntsPost wr r.ids e w' := by
  obtain ⟨r, hr⟩ : ∃ r, kids[j]? = some r := ⟨kids[j]'(by omega), by simp⟩
  obtain ⟨b, off, ha, hA⟩ := hat (by rintro rfl; simp at hr)
  obtain ⟨_, ⟨sa, sc, rfl⟩, h1, h2, h3, h4, h5, h6⟩ := ((hA j r hr).below hbel).rep
  have hs := take_split hr
  have hmem := List.mem_of_getElem? hr
  have hcnt2 : cntL kids = cntL (kids.take j) + (r.cnt + cntL (kids.drop (j + 1))) := by
    have := congrArg cntL hs
    rw [cntL_append] at this
    simpa [cntL] using this
  have i1 := idsL_cnt (kids.take j)
  have i2 := ids_cnt r
  exact ⟨b, off, r, sa, sc, ha, hr, h2, h3, h4, h5, h6, by omega, ih r _ wr (Nat.le_trans (depth_mem hmem) hdep) h1 (by omega)⟩

set_option maxRecDepth 100000 in
theorem rids_leaf (W H id : Int) (m : Nat) (a : Option Addr) (cap : Nat) (w : World) : Calls Try.prog 79 #[.agg #[.int .i64 1, .int .i64 W, .int .i64 H, .int .i64 id, .slice a m cap]] w fun e w' => IntsPost w [id] e w' := by
  go_enter Try.func79, Try.ntmps79
  go_wp2_with fail
  go_ret
  refine ⟨_, rfl, ?_, ((Below.refl _ _).alloc (Nat.le_refl _) _).alloc (by simp) _⟩
  have := World.ownsRow_lit (base := w.heap.size) (e := 3) (size := 1) (w.alloc (.cells #[.int .i64 1, .int .i64 W, .int .i64 H, .int .i64 id, .slice a m cap] 88)) #[.int .i64 id] 1 (by simp) (by unfold maxLen; omega) (by rfl)
  simpa [ints] using this

set_option maxRecDepth 100000 in
set_option maxHeartbeats 1000000 in
theorem rids_node (n : Nat) (ih : Hid (RIdsSaid n)) (k W H id : Int) (kids : List R) (m : Nat) (a : Option Addr) (cap : Nat) (w : World) (hk : ¬ k = 1) (hdep : Hid (depthL kids ≤ n)) (hm : Hid (m = kids.length)) (hm1 : m ≤ 1000) (hm2 : m ≤ cap) (hcap : cap ≤ maxLen)
    (hat : Hid (kids ≠ [] → ∃ b off, a = some ⟨b, off, none⟩ ∧ ∀ j r, kids[j]? = some r → NAt w b (off + j * 5) r)) (hcnt : Hid (cntL kids + 1 ≤ 1000)) :
    Calls Try.prog 79 #[.agg #[.int .i64 k, .int .i64 W, .int .i64 H, .int .i64 id, .slice a m cap]] w fun e w' => IntsPost w (idsL kids) e w' := by
  obtain ⟨i0, hi0, hz0, hz1, hz2⟩ := info_parts info3
  have Hi := Lib.hid hi0; have Hz0 := Lib.hid hz0; have Hz1 := Lib.hid hz1; have Hz2 := Lib.hid hz2
  clear hi0 hz0 hz1 hz2
  have hk2 : (k == 1) = false := by simpa using hk
  go_enter Try.func79, Try.ntmps79
  go_wp2_with fail
  go_loopw [3, 4] (fun v i wr => ∃ j : Nat, j ≤ m ∧ i = .int .i64 j ∧ RIdsLoop w #[.int .i64 k, .int .i64 W, .int .i64 H, .int .i64 id, .slice a m cap] kids j v wr) (fun _ i _ => m - (intOf i).toNat)
  case atStart =>
    refine ⟨0, Nat.zero_le _, rfl, ?_, ?_, ?_⟩
    · simpa [ints, idsL] using World.ownsRow_nil _ _ _ _
    · exact (Below.refl _ _).alloc (Nat.le_refl _) _
    · exact heap_alloc_new w _
  case round =>
    obtain ⟨j, hj, rfl, hL⟩ := hrel
    have c4 : wr.cell? ⟨w.heap.size, 4, none⟩ = some (.slice a m cap) := blk_cell hL.box 4
    by_cases hlt : j < m
    · obtain ⟨b, off, r, sa, sc, rfl, hr, k0, k1, k2, k3, k4, hlen, hC⟩ := rids_facts ih.out hdep.out hm.out hL.bel hat.out hcnt.out hlt
      obtain ⟨va, vc, hv⟩ := own_slice hL.own
      generalize hnn : (idsL (kids.take j)).length = nn at hv hlen
      subst hv
      have HT : Hid (idsL (kids.take (j + 1)) = idsL (kids.take j) ++ r.ids) := Lib.hid (by rw [take_snoc' hr, idsL_app]; simp [idsL])
      obtain ⟨hown, hbel, hbox⟩ := hL
      have HOWN := Lib.hid hown; have HBEL := Lib.hid hbel; have HBOX := Lib.hid hbox; have HC := Lib.hid hC; have HNN := Lib.hid hnn
      clear hown hbel hbox hC hr hat hnn
      generalize r.ids = ids at *
      generalize idsL (kids.take j) = l0 at *
      go_wp2_with fail
      refine HC.out.mono ?_
      rintro e w2 ⟨u2, rfl, o2, hb2⟩
      have hown2 := ownsRow_upd HOWN.out (Upd.of_below (fun _ => False) hb2) (by simp)
      rw [HNN.out] at hown2
      have hbox2 := blk_below HBOX.out hb2
      have hsz := HBEL.out.size
      have hsz2 := hb2.size
      have HOWN2 := Lib.hid hown2; have HBOX2 := Lib.hid hbox2; have HB2 := Lib.hid hb2
      rcases o2.2 with ⟨rfl, h0⟩ | ⟨g2, cap2, cur, rfl, h2⟩
      · have hnil : ids = [] := List.eq_nil_of_length_eq_zero h0
        subst hnil
        clear hown2 hbox2 hb2 o2 c4 k0 k1 k2 k3 k4
        go_wp2_with (at_builtin; go_must (refine wpList_append_own_none rfl (.tmp 18) (.tmp 24) 62 rfl w.heap.size 3 i0 1 Try.underlying62 Hi.out (.slice va nn vc) nn _ rfl HOWN2.out rfl ?_))
        refine ⟨⟨j + 1, hlt, num_succ j, ?_, HBEL.out.trans (HB2.out.mono HBEL.out.size), HBOX2.out⟩, meas_lt hlt⟩
        have := HOWN2.out
        rw [HT.out, List.append_nil, HNN.out]; exact this
      · have HO2 := Lib.hid o2
        clear hown2 hbox2 hb2 o2 c4 k0 k1 k2 k3 k4 h2
        go_wp2_with (at_builtin; go_must (refine wpList_append_own _ rfl (.tmp 18) (.tmp 24) 62 rfl w.heap.size 3 i0 _ 1 8 Try.underlying62 Hi.out Hz0.out Hz1.out Hz2.out rfl (by decide) (.slice va nn vc) _ _ rfl HOWN2.out ⟨g2, 0, none⟩ ids.length cap2 (ints ids) rfl (by simp [ints]) (HO2.out.cells rfl) (by intro u hu; obtain ⟨b', _, rfl⟩ := List.mem_map.1 hu; rfl) (by unfold maxLen; omega) (by omega) (by omega) ?_); intro v3 w3 hown3 hgrow3 _; have Hown3 := Lib.hid hown3; have Hgrow3 := Lib.hid hgrow3; clear hown3 hgrow3)
        refine ⟨⟨j + 1, hlt, num_succ j, ?_, ?_, ?_⟩, meas_lt hlt⟩
        · rw [HT.out, List.length_append, HNN.out]
          simpa [ints] using Hown3.out
        · exact (HBEL.out.trans (HB2.out.mono hsz)).grown Hgrow3.out (by omega) (fun q hq => (World.ownsRow.lt HOWN2.out q hq).1)
        · exact (Hgrow3.out.block _ (blk_lt HBOX2.out) (ownsRow_ne HOWN2.out HBOX2.out (by decide)).symm).trans HBOX2.out
    · obtain ⟨hown, hbel, _⟩ := hL
      rw [List.take_of_length_le (by have := hm.out; omega)] at hown
      have HOWN := Lib.hid hown; have HBEL := Lib.hid hbel
      clear hown hbel
      go_wp2_with fail
      go_ret
      exact ⟨_, rfl, HOWN.out, HBEL.out⟩

theorem rids_any (n : Nat) : RIdsSaid n := by
  induction n with
  | zero =>
    intro r v w hd
    cases r
    simp [R.depth] at hd
  | succ n ih =>
    intro r v w hdep hr hc
    cases r with
    | mk k W H id kids =>
      obtain ⟨a, cap, rfl, h1, h2, h3⟩ := hr.open
      simp only [R.depth] at hdep
      simp only [R.cnt] at hc
      have := cntL_length kids
      by_cases hk : k = 1
      · subst hk; simp only [R.ids, if_true]; exact rids_leaf W H id _ a cap w
      · simp only [R.ids]; rw [if_neg hk]
        exact rids_node n ih k W H id kids kids.length a cap w hk (Nat.le_of_succ_le_succ hdep) rfl (by omega) h1 h2 h3 hc

set_option maxRecDepth 100000 in
theorem has_any (v : Value) (l : List Int) (x : Int) (w : World) (hr : Reads1 w v (ints l)) (hl : l.length ≤ 100000) : Calls Try.prog 80 #[v, .int .i64 x] w fun e w' => e = .returned (.bool (l.contains x)) ∧ w = w' := by
  obtain ⟨a, cap, rfl, hc⟩ := hr
  have hlen : (ints l).length = l.length := by simp [ints]
  rw [hlen] at *
  generalize hn : l.length = n at *
  have HN := Lib.hid hn; have HC := Lib.hid hc
  clear hn hc hlen
  go_enter Try.func80, Try.ntmps80
  go_wp2_with fail
  go_loop [5] (fun i => ∃ j : Nat, j ≤ n ∧ i = .int .i64 j ∧ Hid (x ∉ l.take j)) (fun i => n - (intOf i).toNat)
  case atStart => exact ⟨0, Nat.zero_le _, rfl, by show _ ∉ _; simp⟩
  case round =>
    obtain ⟨j, hj, rfl, hx⟩ := hrel
    by_cases hlt : j < n
    · obtain ⟨p, hp⟩ : ∃ p, l[j]? = some p := ⟨l[j]'(by rw [HN.out]; exact hlt), by simp⟩
      obtain ⟨b, off, rfl, hcc⟩ := HC.out (by simp only [ints, List.length_map]; have := HN.out; omega)
      have c1 := hcc j (.int .i64 p) (by simp [ints, hp])
      have HP := Lib.hid hp; clear hp hcc
      go_wp2_with fail
      · have he : p = x := by simpa using ‹(p == x) = true›
        go_ret
        have hm : x ∈ l := he ▸ List.mem_of_getElem? HP.out
        exact ⟨by simp [hm], rfl⟩
      · have he : ¬ p = x := by simpa using ‹(p == x) = false›
        refine ⟨⟨j + 1, hlt, num_succ j, ?_⟩, meas_lt hlt⟩
        show _ ∉ _
        rw [take_snoc' HP.out]
        simp only [List.mem_append, List.mem_singleton, not_or]
        exact ⟨hx.out, fun e => he e.symm⟩
    · go_wp2_with fail
      go_ret
      have := hx.out
      rw [List.take_of_length_le (by have := HN.out; omega)] at this
      exact ⟨by simp [this], rfl⟩

theorem rext_any (k W H i dir : Int) (a : Option Addr) (n c : Nat) (w : World) : Calls Try.prog 82 #[.agg #[.int .i64 k, .int .i64 W, .int .i64 H, .int .i64 i, .slice a n c], .int .i64 dir] w fun e w' => e = .returned (.int .i64 (ext dir W H)) ∧ Below w.heap.size w w' := by
  by_cases h : dir = 2
  · subst h
    go_enter Try.func82, Try.ntmps82
    go_wp2_with fail
    go_ret
    exact ⟨rfl, (Below.refl _ _).alloc (Nat.le_refl _) _⟩
  · have h2 : (dir == 2) = false := by simpa using h
    go_enter Try.func82, Try.ntmps82
    go_wp2_with fail
    go_ret
    exact ⟨by simp [ext, h], (Below.refl _ _).alloc (Nat.le_refl _) _⟩

end Go.Proofs.Ytpehceccnjdfeaa
