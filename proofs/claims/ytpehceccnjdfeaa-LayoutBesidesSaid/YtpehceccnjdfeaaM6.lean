import Derived.Test.YtpehceccnjdfeaaH0
import Derived.Test.YtpehceccnjdfeaaD9
import Derived.Laws.Cover3
import Derived.Test.YtpehceccnjdfeaaK1

section
/- The reference's Swap. -/
namespace Go.Proofs.Ytpehceccnjdfeaa
open Go.RowKit

/-- A cell, two panes' numbers changed. -/
def swapC (a b : Int) (c : Cl) : Cl := if c.p = a then { c with p := b } else if c.p = b then { c with p := a } else c

def swapF (l : List Cl) (a b : Int) : List Cl × Int := match readF l with
  | none => ([], 40)
  | some r => if a ∈ r.ids ∧ b ∈ r.ids then (l.map (swapC a b), 0) else ([], 42)

structure SwapLoop (w : World) (l : List Cl) (a b : Int) (j : Nat) (v : Value) (wr : World) : Prop where
  own : wr.ownsRow w.heap.size 53 7 v j (cvals ((l.take j).map (swapC a b)))
  bel : Below w.heap.size w wr

set_option maxRecDepth 100000 in
set_option maxHeartbeats 2000000 in
theorem rswap_some (v : Value) (l : List Cl) (a b : Int) (w : World) (h : Reads w v l) (r : R) (ids : List Int) (hids : Hid (r.ids = ids)) (hr : readF l = some r) (ha : a ∈ ids) (hbm : b ∈ ids) :
    Calls Try.prog 47 #[v, .int .i64 a, .int .i64 b] w fun e w' => ListPost w (l.map (swapC a b), 0) e w' := by
  obtain ⟨i0, hi0, hz0, hz1, hz2⟩ := info_parts info53
  have Hi := Lib.hid hi0; have Hz0 := Lib.hid hz0; have Hz1 := Lib.hid hz1; have Hz2 := Lib.hid hz2
  clear hi0 hz0 hz1 hz2
  have HT := tree_any v l w h
  rw [hr] at HT
  have RI := read_is hr
  have hlen := RI.len
  have hcn := RI.cnt
  have hidl := ids_cnt r
  rw [hids.out] at hidl
  obtain ⟨ad, cap, rfl, _, _, h3⟩ := h
  generalize hn : l.length = n at *
  have HT := Lib.hid HT; have HN := Lib.hid hn; have H3 := Lib.hid h3; have HA := Lib.hid ha; have HBM := Lib.hid hbm
  clear hn h3 RI hr ha hbm
  go_enter Try.func47, Try.ntmps47
  go_wp2_with fail
  refine HT.out.mono ?_
  rintro e w1 ⟨hb1, sa, sc, rfl, hkk⟩
  have hrep : NRep w1 (.agg #[.int .i64 r.kind, .int .i64 r.w, .int .i64 r.h, .int .i64 r.id, .slice sa r.kids.length sc]) r := ⟨_, rfl, hkk.nk⟩
  have hb2 : Below w1.heap.size w1 (w1.alloc (.cells #[.int .i64 r.kind, .int .i64 r.w, .int .i64 r.h, .int .i64 r.id, .slice sa r.kids.length sc] 88)) := (Below.refl _ _).alloc (Nat.le_refl _) _
  have hI := rids_any _ r _ _ (Nat.le_refl _) (hrep.below hb2) (by omega)
  rw [hids.out] at hI
  have HI := Lib.hid hI; have HB2 := Lib.hid (hb1.trans (hb2.mono hb1.size)); clear hI hb1 hkk hrep HT hb2
  go_wp2_with fail
  refine HI.out.mono ?_
  rintro e w3 ⟨v3, rfl, o3, hb3⟩
  have hh1 := has_any v3 ids a w3 (reads1_of_owns o3) (by omega)
  have hh2 := has_any v3 ids b w3 (reads1_of_owns o3) (by omega)
  rw [show ids.contains a = true by simpa using HA.out] at hh1
  rw [show ids.contains b = true by simpa using HBM.out] at hh2
  have HH1 := Lib.hid hh1; have HH2 := Lib.hid hh2
  have HB3 := Lib.hid (HB2.out.trans (hb3.mono HB2.out.size))
  clear o3 hb3 hh1 hh2 HI
  go_wp2_with fail
  refine HH1.out.mono ?_
  rintro e w' ⟨rfl, rfl⟩
  go_wp2_with fail
  refine HH2.out.mono ?_
  rintro e w' ⟨rfl, rfl⟩
  go_wp2_with fail
  go_loopw [11, 12, 13] (fun u i _ wr => ∃ j : Nat, j ≤ n ∧ i = .int .i64 j ∧ SwapLoop w l a b j u wr) (fun _ i _ _ => n - (intOf i).toNat)
  case atStart => exact ⟨0, Nat.zero_le _, rfl, by simpa [cvals] using World.ownsRow_nil _ _ _ _, HB3.out⟩
  case round =>
    obtain ⟨j, hj, rfl, hL⟩ := hrel
    obtain ⟨va, vc, hv⟩ := own_slice hL.own
    subst hv
    by_cases hlt : j < n
    · obtain ⟨c, hc⟩ : ∃ c, l[j]? = some c := ⟨l[j]'(by rw [HN.out]; exact hlt), by simp⟩
      obtain ⟨bb, off, rfl, hcc⟩ := H3.out (by omega)
      have hbb : bb < w.heap.size := World.block_lt_of_cell? w ⟨bb, off + j * 7 + 0, none⟩ (u := .int .i64 c.d) (by rw [hcc j c hc 0 (by omega)]; rfl)
      have g := fun i hi => (hL.bel.cell (p := ⟨bb, off + j * 7 + i, none⟩) hbb).trans (hcc j c hc i hi)
      have a0 := g 0 (by omega); have a1 := g 1 (by omega); have a2 := g 2 (by omega); have a3 := g 3 (by omega); have a4 := g 4 (by omega); have a5 := g 5 (by omega); have a6 := g 6 (by omega)
      clear g
      simp only [Cl.vals, List.getElem?_cons_zero, List.getElem?_cons_succ, Nat.add_zero] at a0 a1 a2 a3 a4 a5 a6
      have HTK := Lib.hid (take_snoc' hc)
      have HOWN := Lib.hid hL.own; have HBEL := Lib.hid hL.bel
      have hsz := hL.bel.size
      clear hL hc hcc hbb
      rcases (by cases c.p == a <;> cases c.p == b <;> simp : ((c.p == a) = true) ∨ ((c.p == a) = false ∧ (c.p == b) = true) ∨ ((c.p == a) = false ∧ (c.p == b) = false)) with e1 | ⟨e1, e2⟩ | ⟨e1, e2⟩
      · have hnew := heap_alloc_new (wr.alloc (.cells #[.int .i64 c.d, .int .i64 c.k, .int .i64 c.x, .int .i64 c.y, .int .i64 c.w, .int .i64 c.h, .int .i64 b] 53)) (.cells #[.int .i64 c.d, .int .i64 c.k, .int .i64 c.x, .int .i64 c.y, .int .i64 c.w, .int .i64 c.h, .int .i64 b] 53)
        rw [show (wr.alloc (.cells #[.int .i64 c.d, .int .i64 c.k, .int .i64 c.x, .int .i64 c.y, .int .i64 c.w, .int .i64 c.h, .int .i64 b] 53)).heap.size = wr.heap.size + 1 by simp] at hnew
        have HNEW := Lib.hid hnew; clear hnew
        have HQ : Hid (swapC a b c = ⟨c.d, c.k, c.x, c.y, c.w, c.h, b⟩) := Lib.hid (by unfold swapC; rw [if_pos (by simpa using e1)])
        go_wp2_with (at_builtin; go_must (refine wpList_append_lies _ rfl (.tmp 55) (.tmp 57) 22 rfl w.heap.size 53 i0 _ 7 56 Try.underlying22 Hi.out Hz0.out Hz1.out Hz2.out rfl (by decide) (.slice va j vc) _ _ rfl ((HOWN.out.alloc _).alloc _) ⟨wr.heap.size + 1, 0, none⟩ 1 1 [.int .i64 c.d, .int .i64 c.k, .int .i64 c.x, .int .i64 c.y, .int .i64 c.w, .int .i64 c.h, .int .i64 b] rfl rfl (World.news_of_block (cs := #[.int .i64 c.d, .int .i64 c.k, .int .i64 c.x, .int .i64 c.y, .int .i64 c.w, .int .i64 c.h, .int .i64 b]) (t := 53) (fr := (0, 0)) HNEW.out) (by simp [Value.oneCell']) (by omega) (by unfold maxLen; omega) (by omega) (by simp; omega) (wr.heap.size + 2) (by simp) ?_); intro g3 cap3 w3 hown3 hgrow3 hat3 hlt3; have Hown3 := Lib.hid hown3; have Hgrow3 := Lib.hid hgrow3; clear hown3 hgrow3)
        refine ⟨⟨j + 1, hlt, num_succ j, ?_, ?_⟩, meas_lt hlt⟩
        · rw [HTK.out, List.map_append, cvals_append, List.map_cons, List.map_nil, HQ.out]
          simpa [cvals, Cl.vals] using Hown3.out
        · exact (((HBEL.out.alloc HBEL.out.size _).alloc (by simp; omega) _)).grown Hgrow3.out (by simp; omega) (fun q hq => (World.ownsRow.lt HOWN.out q hq).1)
      · have hnew := heap_alloc_new (wr.alloc (.cells #[.int .i64 c.d, .int .i64 c.k, .int .i64 c.x, .int .i64 c.y, .int .i64 c.w, .int .i64 c.h, .int .i64 a] 53)) (.cells #[.int .i64 c.d, .int .i64 c.k, .int .i64 c.x, .int .i64 c.y, .int .i64 c.w, .int .i64 c.h, .int .i64 a] 53)
        rw [show (wr.alloc (.cells #[.int .i64 c.d, .int .i64 c.k, .int .i64 c.x, .int .i64 c.y, .int .i64 c.w, .int .i64 c.h, .int .i64 a] 53)).heap.size = wr.heap.size + 1 by simp] at hnew
        have HNEW := Lib.hid hnew; clear hnew
        have HQ : Hid (swapC a b c = ⟨c.d, c.k, c.x, c.y, c.w, c.h, a⟩) := Lib.hid (by unfold swapC; rw [if_neg (by simpa using e1), if_pos (by simpa using e2)])
        go_wp2_with (at_builtin; go_must (refine wpList_append_lies _ rfl (.tmp 55) (.tmp 57) 22 rfl w.heap.size 53 i0 _ 7 56 Try.underlying22 Hi.out Hz0.out Hz1.out Hz2.out rfl (by decide) (.slice va j vc) _ _ rfl ((HOWN.out.alloc _).alloc _) ⟨wr.heap.size + 1, 0, none⟩ 1 1 [.int .i64 c.d, .int .i64 c.k, .int .i64 c.x, .int .i64 c.y, .int .i64 c.w, .int .i64 c.h, .int .i64 a] rfl rfl (World.news_of_block (cs := #[.int .i64 c.d, .int .i64 c.k, .int .i64 c.x, .int .i64 c.y, .int .i64 c.w, .int .i64 c.h, .int .i64 a]) (t := 53) (fr := (0, 0)) HNEW.out) (by simp [Value.oneCell']) (by omega) (by unfold maxLen; omega) (by omega) (by simp; omega) (wr.heap.size + 2) (by simp) ?_); intro g3 cap3 w3 hown3 hgrow3 hat3 hlt3; have Hown3 := Lib.hid hown3; have Hgrow3 := Lib.hid hgrow3; clear hown3 hgrow3)
        refine ⟨⟨j + 1, hlt, num_succ j, ?_, ?_⟩, meas_lt hlt⟩
        · rw [HTK.out, List.map_append, cvals_append, List.map_cons, List.map_nil, HQ.out]
          simpa [cvals, Cl.vals] using Hown3.out
        · exact (((HBEL.out.alloc HBEL.out.size _).alloc (by simp; omega) _)).grown Hgrow3.out (by simp; omega) (fun q hq => (World.ownsRow.lt HOWN.out q hq).1)
      · have hnew := heap_alloc_new (wr.alloc (.cells #[.int .i64 c.d, .int .i64 c.k, .int .i64 c.x, .int .i64 c.y, .int .i64 c.w, .int .i64 c.h, .int .i64 c.p] 53)) (.cells #[.int .i64 c.d, .int .i64 c.k, .int .i64 c.x, .int .i64 c.y, .int .i64 c.w, .int .i64 c.h, .int .i64 c.p] 53)
        rw [show (wr.alloc (.cells #[.int .i64 c.d, .int .i64 c.k, .int .i64 c.x, .int .i64 c.y, .int .i64 c.w, .int .i64 c.h, .int .i64 c.p] 53)).heap.size = wr.heap.size + 1 by simp] at hnew
        have HNEW := Lib.hid hnew; clear hnew
        have HQ : Hid (swapC a b c = ⟨c.d, c.k, c.x, c.y, c.w, c.h, c.p⟩) := Lib.hid (by unfold swapC; rw [if_neg (by simpa using e1), if_neg (by simpa using e2)])
        go_wp2_with (at_builtin; go_must (refine wpList_append_lies _ rfl (.tmp 55) (.tmp 57) 22 rfl w.heap.size 53 i0 _ 7 56 Try.underlying22 Hi.out Hz0.out Hz1.out Hz2.out rfl (by decide) (.slice va j vc) _ _ rfl ((HOWN.out.alloc _).alloc _) ⟨wr.heap.size + 1, 0, none⟩ 1 1 [.int .i64 c.d, .int .i64 c.k, .int .i64 c.x, .int .i64 c.y, .int .i64 c.w, .int .i64 c.h, .int .i64 c.p] rfl rfl (World.news_of_block (cs := #[.int .i64 c.d, .int .i64 c.k, .int .i64 c.x, .int .i64 c.y, .int .i64 c.w, .int .i64 c.h, .int .i64 c.p]) (t := 53) (fr := (0, 0)) HNEW.out) (by simp [Value.oneCell']) (by omega) (by unfold maxLen; omega) (by omega) (by simp; omega) (wr.heap.size + 2) (by simp) ?_); intro g3 cap3 w3 hown3 hgrow3 hat3 hlt3; have Hown3 := Lib.hid hown3; have Hgrow3 := Lib.hid hgrow3; clear hown3 hgrow3)
        refine ⟨⟨j + 1, hlt, num_succ j, ?_, ?_⟩, meas_lt hlt⟩
        · rw [HTK.out, List.map_append, cvals_append, List.map_cons, List.map_nil, HQ.out]
          simpa [cvals, Cl.vals] using Hown3.out
        · exact (((HBEL.out.alloc HBEL.out.size _).alloc (by simp; omega) _)).grown Hgrow3.out (by simp; omega) (fun q hq => (World.ownsRow.lt HOWN.out q hq).1)
    · have HL := Lib.hid hL; clear hL
      go_wp2_with fail
      go_ret2
      have := HL.out.own
      rw [List.take_of_length_le (by have := HN.out; omega)] at this
      refine ⟨_, rfl, ?_, HL.out.bel⟩
      unfold Owned
      have hjn : j = (l.map (swapC a b)).length := by rw [List.length_map]; have := HN.out; omega
      rw [← hjn]; exact this

end Go.Proofs.Ytpehceccnjdfeaa
end

section
/- The reference's Swap: its early ends; whole. -/
namespace Go.Proofs.Ytpehceccnjdfeaa
open Go.RowKit

theorem rswap_40 (v : Value) (l : List Cl) (a b : Int) (w : World) (h : Reads w v l) (hr : readF l = none) : Calls Try.prog 47 #[v, .int .i64 a, .int .i64 b] w fun e w' => ListPost w ([], 40) e w' := by
  have HT := tree_any v l w h
  rw [hr] at HT
  have HT := Lib.hid HT; clear h hr
  go_enter Try.func47, Try.ntmps47
  go_wp2_with fail
  refine HT.out.mono ?_
  rintro e w1 ⟨hb1, rfl⟩
  have HB1 := Lib.hid hb1; clear hb1
  unfold zeroNode
  go_wp2_with fail
  go_ret2
  exact list_post_none (HB1.out.alloc HB1.out.size _)

set_option maxRecDepth 100000 in
theorem rswap_42 (v : Value) (l : List Cl) (a b : Int) (w : World) (h : Reads w v l) (r : R) (ids : List Int) (hids : Hid (r.ids = ids)) (hr : readF l = some r) (hab : ¬ (a ∈ ids ∧ b ∈ ids)) :
    Calls Try.prog 47 #[v, .int .i64 a, .int .i64 b] w fun e w' => ListPost w ([], 42) e w' := by
  have HT := tree_any v l w h
  rw [hr] at HT
  have RI := read_is hr
  have hlen := RI.len
  have hcn := RI.cnt
  have hidl := ids_cnt r
  rw [hids.out] at hidl
  have HT := Lib.hid HT
  clear RI hr h
  go_enter Try.func47, Try.ntmps47
  go_wp2_with fail
  refine HT.out.mono ?_
  rintro e w1 ⟨hb1, sa, sc, rfl, hkk⟩
  have hrep : NRep w1 (.agg #[.int .i64 r.kind, .int .i64 r.w, .int .i64 r.h, .int .i64 r.id, .slice sa r.kids.length sc]) r := ⟨_, rfl, hkk.nk⟩
  have hb2 : Below w1.heap.size w1 (w1.alloc (.cells #[.int .i64 r.kind, .int .i64 r.w, .int .i64 r.h, .int .i64 r.id, .slice sa r.kids.length sc] 88)) := (Below.refl _ _).alloc (Nat.le_refl _) _
  have hI := rids_any _ r _ _ (Nat.le_refl _) (hrep.below hb2) (by omega)
  rw [hids.out] at hI
  have HI := Lib.hid hI; have HB2 := Lib.hid (hb1.trans (hb2.mono hb1.size)); clear hI hb1 hkk hrep HT hb2
  go_wp2_with fail
  refine HI.out.mono ?_
  rintro e w3 ⟨v3, rfl, o3, hb3⟩
  have hh1 := has_any v3 ids a w3 (reads1_of_owns o3) (by omega)
  have hh2 := has_any v3 ids b w3 (reads1_of_owns o3) (by omega)
  have HB3 := Lib.hid (HB2.out.trans (hb3.mono HB2.out.size))
  clear o3 hb3 HI
  by_cases ha : a ∈ ids
  · have hb : b ∉ ids := fun hb => hab ⟨ha, hb⟩
    rw [show ids.contains a = true by simpa using ha] at hh1
    rw [show ids.contains b = false by simpa using hb] at hh2
    have HH1 := Lib.hid hh1; have HH2 := Lib.hid hh2
    clear hh1 hh2 ha hb hab
    go_wp2_with fail
    refine HH1.out.mono ?_
    rintro e w' ⟨rfl, rfl⟩
    go_wp2_with fail
    refine HH2.out.mono ?_
    rintro e w' ⟨rfl, rfl⟩
    go_wp2_with fail
    go_ret2
    exact list_post_none HB3.out
  · rw [show ids.contains a = false by simpa using ha] at hh1
    have HH1 := Lib.hid hh1
    clear hh1 hh2 ha hab
    go_wp2_with fail
    refine HH1.out.mono ?_
    rintro e w' ⟨rfl, rfl⟩
    go_wp2_with fail
    go_ret2
    exact list_post_none HB3.out

theorem rswap_any (v : Value) (l : List Cl) (a b : Int) (w : World) (h : Reads w v l) : Calls Try.prog 47 #[v, .int .i64 a, .int .i64 b] w fun e w' => ListPost w (swapF l a b) e w' := by
  unfold swapF
  cases hr : readF l with
  | none => exact rswap_40 v l a b w h hr
  | some r =>
    simp only []
    by_cases hab : a ∈ r.ids ∧ b ∈ r.ids
    · rw [if_pos hab]; exact rswap_some v l a b w h r r.ids rfl hr hab.1 hab.2
    · rw [if_neg hab]; exact rswap_42 v l a b w h r r.ids rfl hr hab

end Go.Proofs.Ytpehceccnjdfeaa
end

section
/- The program's Swap: Clone. -/
namespace Go.Proofs.Ytpehceccnjdfeaa
open Go.RowKit

theorem eql_nil22 (a : Option Addr) (l c : Nat) (w : World) : (binOp .eql 22 (.slice a l c) (.slice none 0 0)).run Try.prog w = .ok (.bool a.isNone) w := by
  simp only [binOp]
  simp [run_equal_slice_nil w 22 53 a l c Try.underlying22]

attribute [local go_sem high] eql_nil22
set_option maxRecDepth 100000 in
theorem clone_any (b off n cap : Nat) (cv : List Value) (w : World) (hn0 : 0 < n) (hn : n ≤ 64) (hcl : cv.length = n * 7) (hnews : Hid (∀ j u, cv[j]? = some u → w.cell? ((⟨b, off, none⟩ : Addr).add j) = some u)) (hone : Hid (∀ u ∈ cv, Value.oneCell' u = true)) :
    Calls Try.prog 91 #[.slice (some ⟨b, off, none⟩) n cap] w fun e w' => ∃ g cap', e = .returned (.slice (some ⟨g, 0, none⟩) n cap') ∧ w'.ownsRow w.heap.size 53 7 (.slice (some ⟨g, 0, none⟩) n cap') n cv ∧ Below w.heap.size w w' := by
  obtain ⟨i0, hi0, hz0, hz1, hz2⟩ := info_parts info53
  have Hi := Lib.hid hi0; have Hz0 := Lib.hid hz0; have Hz1 := Lib.hid hz1; have Hz2 := Lib.hid hz2
  clear hi0 hz0 hz1 hz2
  go_enter Try.func91, Try.ntmps91
  have hown0 : (w.alloc (.cells #[] 53)).ownsRow w.heap.size 53 7 (.slice (some ⟨w.heap.size, 0, none⟩) 0 0) 0 [] := World.ownsRow_lit (base := w.heap.size) (e := 53) (size := 7) w #[] 0 (Nat.le_refl _) (by unfold maxLen; omega) (by rfl)
  have hb0 : Below w.heap.size w (w.alloc (.cells #[] 53)) := (Below.refl _ _).alloc (Nat.le_refl _) _
  have hnews2 : Hid (∀ j u, cv[j]? = some u → (w.alloc (.cells #[] 53)).cell? ((⟨b, off, none⟩ : Addr).add j) = some u) := Lib.hid fun j u hu => (hb0.cell (by
    have := World.block_lt_of_cell? w _ (hnews.out j u hu)
    exact this)).trans (hnews.out j u hu)
  have HO := Lib.hid hown0; have HB := Lib.hid hb0; have HCL := Lib.hid hcl; clear hown0 hb0 hcl
  go_wp2_with (at_builtin; go_must (refine wpList_append_lies _ rfl (.tmp 5) (.tmp 6) 22 rfl w.heap.size 53 i0 _ 7 56 Try.underlying22 Hi.out Hz0.out Hz1.out Hz2.out rfl (by decide) (.slice (some ⟨w.heap.size, 0, none⟩) 0 0) 0 [] rfl HO.out ⟨b, off, none⟩ n cap cv rfl HCL.out hnews2.out hone.out hn0 (by unfold maxLen; omega) (by omega) (by simp) (w.heap.size + 1) (by simp) ?_); intro g2 cap2 w2 hown2 hgrow2 hat2 hlt2; simp only [Nat.zero_add, List.nil_append] at hown2; have Hown2 := Lib.hid hown2; have Hgrow2 := Lib.hid hgrow2; clear hown2 hgrow2)
  go_ret
  exact ⟨g2, cap2, by simp, Hown2.out, HB.out.grown Hgrow2.out (by simp) (fun k hk => (World.ownsRow.lt HO.out k hk).1)⟩

end Go.Proofs.Ytpehceccnjdfeaa
end

section
/- Swap, plain; a cell of a row set. -/
namespace Go.Proofs.Ytpehceccnjdfeaa
open Go.RowKit

theorem own_set {w : World} {B e sz g cap n : Nat} {xs : List Value} (h : w.ownsRow B e sz (.slice (some ⟨g, 0, none⟩) n cap) n xs) (k : Nat) (u : Value) :
    (w.setCell ⟨g, k, none⟩ u).ownsRow B e sz (.slice (some ⟨g, 0, none⟩) n cap) n (xs.set k u) := by
  refine ⟨by rw [List.length_set]; exact h.1, ?_⟩
  rcases h.2 with ⟨e, _⟩ | ⟨g', cap', cur, e, h1, h2, h3, h4, h5, h6⟩
  · cases e
  · simp only [Value.slice.injEq, Option.some.injEq, Addr.mk.injEq] at e
    obtain ⟨⟨rfl, _, _⟩, _, rfl⟩ := e
    refine .inr ⟨g, cap, cur.setIfInBounds k u, rfl, h1, blk_set h2 k u, h3, h4, by simp [h5], ?_⟩
    rw [Array.toList_setIfInBounds, List.take_set, h6]

theorem cvals_set : ∀ (l : List Cl) (i : Nat) (c : Cl) (q : Int), l[i]? = some c → (cvals l).set (i * 7 + 6) (.int .i64 q) = cvals (l.set i { c with p := q })
  | [], i, c, q, h => by simp at h
  | a :: l, 0, c, q, h => by
    simp at h; subst h
    simp [cvals, Cl.vals]
  | a :: l, i + 1, c, q, h => by
    have ih := cvals_set l i c q (by simpa using h)
    rw [List.set_cons_succ]
    have e1 : cvals (a :: l) = a.vals ++ cvals l := by simp [cvals]
    have e2 : cvals (a :: l.set i { c with p := q }) = a.vals ++ cvals (l.set i { c with p := q }) := by simp [cvals]
    rw [e1, e2, ← ih, List.set_append_right _ _ (by simp [Cl.vals]; omega)]
    congr 2
    simp [Cl.vals]; omega

end Go.Proofs.Ytpehceccnjdfeaa
end

section
/- The program's Swap. -/
namespace Go.Proofs.Ytpehceccnjdfeaa
open Go.RowKit

theorem own_blk {w : World} {B e sz g cap n : Nat} {xs : List Value} (h : w.ownsRow B e sz (.slice (some ⟨g, 0, none⟩) n cap) n xs) : ∃ cur, w.heap[g]? = some (.cells cur e (0, 0)) := by
  rcases h.2 with ⟨e, _⟩ | ⟨g', cap', cur, e, h1, h2, h3, h4, h5, h6⟩
  · cases e
  · simp only [Value.slice.injEq, Option.some.injEq, Addr.mk.injEq] at e
    obtain ⟨⟨rfl, _, _⟩, _, rfl⟩ := e
    exact ⟨cur, h2⟩

set_option maxRecDepth 100000 in
set_option maxHeartbeats 1000000 in
theorem swap_some (v : Value) (l : List Cl) (a b : Int) (w : World) (h : Reads w v l) (r : R) (hr : readF l = some r) (i j : Nat) (ci cj : Cl) (hi : findF l a = ((i : Int), true)) (hj : findF l b = ((j : Int), true))
    (hci : l[i]? = some ci) (hcj : (l.set i { ci with p := b })[j]? = some cj) :
    Calls Try.prog 46 #[v, .int .i64 a, .int .i64 b] w fun e w' => ListPost w ((l.set i { ci with p := b }).set j { cj with p := a }, 0) e w' := by
  have HREAD := read_any v l w h
  rw [hr] at HREAD
  have RI := read_is hr
  have hlen := RI.len
  have HF : Hid (∀ W, Below w.heap.size w W → Calls Try.prog 31 #[v, .int .i64 a] W fun e w' => SeenPost W ((i : Int), true) e w') := Lib.hid fun W hW => hi ▸ find_any v l a W (h.below hW)
  have HG : Hid (∀ W, Below w.heap.size w W → Calls Try.prog 31 #[v, .int .i64 b] W fun e w' => SeenPost W ((j : Int), true) e w') := Lib.hid fun W hW => hj ▸ find_any v l b W (h.below hW)
  have hil := (List.getElem?_eq_some_iff.1 hci).1
  have hjl := (List.getElem?_eq_some_iff.1 hcj).1
  rw [List.length_set] at hjl
  obtain ⟨ad, cap, rfl, _, _, h3⟩ := h
  obtain ⟨bb, off, rfl, hcc⟩ := h3 (by omega)
  have hnews : ∀ q u, (cvals l)[q]? = some u → w.cell? ((⟨bb, off, none⟩ : Addr).add q) = some u := by
    intro q u hu
    have hq := (List.getElem?_eq_some_iff.1 hu).1
    rw [cvals_length] at hq
    obtain ⟨x, hx⟩ : ∃ x, l[q / 7]? = some x := ⟨l[q / 7]'(by omega), by simp⟩
    have h1 := hcc (q / 7) x hx (q % 7) (Nat.mod_lt _ (by omega))
    have h2 := cvals_at l (q / 7) x (q % 7) hx (Nat.mod_lt _ (by omega))
    rw [show q / 7 * 7 + q % 7 = q by omega] at h2
    rw [← h2, hu, show off + q / 7 * 7 + q % 7 = off + q by omega] at h1
    rw [show (⟨bb, off, none⟩ : Addr).add q = ⟨bb, off + q, none⟩ by simp only [Addr.add]; split <;> simp_all]
    exact h1
  have HK : Hid (∀ W, Below w.heap.size w W → Calls Try.prog 91 #[.slice (some ⟨bb, off, none⟩) l.length cap] W fun e w' => ∃ g cap', e = .returned (.slice (some ⟨g, 0, none⟩) l.length cap') ∧ w'.ownsRow W.heap.size 53 7 (.slice (some ⟨g, 0, none⟩) l.length cap') l.length (cvals l) ∧ Below W.heap.size W w') :=
    Lib.hid fun W hW => clone_any bb off l.length cap (cvals l) W (by omega) (by omega) (cvals_length l) (Lib.hid fun q u hu => (hW.cell (World.block_lt_of_cell? w _ (hnews q u hu))).trans (hnews q u hu)) (Lib.hid (cvals_one_cell l))
  have S1 := Lib.hid (cvals_set l i ci b hci)
  have S2 := Lib.hid (cvals_set (l.set i { ci with p := b }) j cj a hcj)
  have U1 := Lib.hid (cvals_at l i ci 6 hci (by omega)); have U2 := Lib.hid (cvals_at (l.set i { ci with p := b }) j cj 6 hcj (by omega))
  have HLL : Hid (((l.set i { ci with p := b }).set j { cj with p := a }).length = l.length) := Lib.hid (by simp)
  have HR := Lib.hid HREAD
  clear HREAD hr RI h3 hcc hnews hi hj hci hcj
  generalize hn : l.length = n at *
  have HN := Lib.hid hn; clear hn
  go_enter Try.func46, Try.ntmps46
  go_wp2_with fail
  refine HR.out.mono ?_
  rintro e w1 ⟨hb1, A, rfl, _⟩
  obtain ⟨ty, hv, _⟩ := val_parts A
  rw [hv]
  have HB1 := Lib.hid hb1; clear hb1 hv
  have C1 := Lib.hid (HF.out w1 HB1.out)
  go_wp2_with fail
  refine C1.out.mono ?_
  rintro e w2 ⟨rfl, hb2⟩
  have HB2 := Lib.hid (HB1.out.trans (hb2.mono HB1.out.size)); clear hb2
  have C2 := Lib.hid (HG.out w2 HB2.out)
  go_wp2_with fail
  refine C2.out.mono ?_
  rintro e w3 ⟨rfl, hb3⟩
  have HB3 := Lib.hid (HB2.out.trans (hb3.mono HB2.out.size)); clear hb3
  have C3 := Lib.hid (HK.out w3 HB3.out)
  go_wp2_with fail
  refine C3.out.mono ?_
  rintro e w4 ⟨g, cap', rfl, o4, hb4⟩
  have o5 := own_set o4 (i * 7 + 6) (.int .i64 b)
  rw [S1.out] at o5
  have o6 := own_set o5 (j * 7 + 6) (.int .i64 a)
  rw [S2.out] at o6
  obtain ⟨cur, hx⟩ := own_blk o4
  obtain ⟨cur2, hx2⟩ := own_blk o5
  have c1 : w4.cell? ⟨g, i * 7 + 6, none⟩ = some (.int .i64 ci.p) := by rw [o4.cellAt _ (by omega), U1.out]; rfl
  have c2 : (w4.setCell ⟨g, i * 7 + 6, none⟩ (.int .i64 b)).cell? ⟨g, j * 7 + 6, none⟩ = some (.int .i64 cj.p) := by rw [o5.cellAt _ (by omega), U2.out]; rfl
  have f1 : w4.frozen? ⟨g, i * 7 + 6, none⟩ = false := blk_free hx _
  have f2 : (w4.setCell ⟨g, i * 7 + 6, none⟩ (.int .i64 b)).frozen? ⟨g, j * 7 + 6, none⟩ = false := blk_free hx2 _
  have hg : w3.heap.size ≤ g := (o4.form (by omega)).elim fun g' h => h.elim fun c' h => by
    obtain ⟨e, h1, _⟩ := h
    simp only [Value.slice.injEq, Option.some.injEq, Addr.mk.injEq] at e
    omega
  have HB6 : Hid (Below w.heap.size w ((w4.setCell ⟨g, i * 7 + 6, none⟩ (.int .i64 b)).setCell ⟨g, j * 7 + 6, none⟩ (.int .i64 a))) := by
    have s3 := HB3.out.size
    exact Lib.hid (((HB3.out.trans (hb4.mono s3)).setCell (by simp only []; omega) _).setCell (by simp only []; omega) _)
  have HO6 := Lib.hid (ownsRow_mono o6 HB3.out.size)
  clear o4 o5 o6 hb4 hx hx2
  go_wp2_with fail
  go_ret2
  refine ⟨_, rfl, ?_, HB6.out⟩
  unfold Owned
  rw [HLL.out]
  exact HO6.out

end Go.Proofs.Ytpehceccnjdfeaa
end

section
/- The program's Swap whole. -/
namespace Go.Proofs.Ytpehceccnjdfeaa
open Go.RowKit

theorem swap_40 (v : Value) (l : List Cl) (a b : Int) (w : World) (h : Reads w v l) (hr : readF l = none) : Calls Try.prog 46 #[v, .int .i64 a, .int .i64 b] w fun e w' => ListPost w ([], 40) e w' := by
  have HREAD := read_any v l w h
  rw [hr] at HREAD
  have HR := Lib.hid HREAD; clear HREAD h hr
  go_enter Try.func46, Try.ntmps46
  go_wp2_with fail
  refine HR.out.mono ?_
  rintro e w1 ⟨hb, rfl⟩
  have HB := Lib.hid hb; clear hb
  go_wp2_with fail
  go_ret2
  exact list_post_none HB.out

theorem swap_42 (v : Value) (l : List Cl) (a b : Int) (w : World) (h : Reads w v l) (r : R) (hr : readF l = some r) (i j : Int) (one two : Bool) (hi : findF l a = (i, one)) (hj : findF l b = (j, two)) (hno : ¬ (one = true ∧ two = true)) :
    Calls Try.prog 46 #[v, .int .i64 a, .int .i64 b] w fun e w' => ListPost w ([], 42) e w' := by
  have HREAD := read_any v l w h
  rw [hr] at HREAD
  have HF : Hid (∀ W, Below w.heap.size w W → Calls Try.prog 31 #[v, .int .i64 a] W fun e w' => SeenPost W (i, one) e w') := Lib.hid fun W hW => hi ▸ find_any v l a W (h.below hW)
  have HG : Hid (∀ W, Below w.heap.size w W → Calls Try.prog 31 #[v, .int .i64 b] W fun e w' => SeenPost W (j, two) e w') := Lib.hid fun W hW => hj ▸ find_any v l b W (h.below hW)
  have HR := Lib.hid HREAD
  clear HREAD h hr hi hj
  cases one <;> cases two
  case true.true => exact absurd ⟨rfl, rfl⟩ hno
  all_goals
    clear hno
    go_enter Try.func46, Try.ntmps46
    go_wp2_with fail
    refine HR.out.mono ?_
    rintro e w1 ⟨hb1, A, rfl, _⟩
    obtain ⟨ty, hv, _⟩ := val_parts A
    rw [hv]
    have HB1 := Lib.hid hb1; clear hb1 hv
    have C1 := Lib.hid (HF.out w1 HB1.out)
    go_wp2_with fail
    refine C1.out.mono ?_
    rintro e w2 ⟨rfl, hb2⟩
    have HB2 := Lib.hid (HB1.out.trans (hb2.mono HB1.out.size)); clear hb2
    have C2 := Lib.hid (HG.out w2 HB2.out)
    go_wp2_with fail
    refine C2.out.mono ?_
    rintro e w3 ⟨rfl, hb3⟩
    have HB3 := Lib.hid (HB2.out.trans (hb3.mono HB2.out.size)); clear hb3
    go_wp2_with fail
    go_ret2
    exact list_post_none HB3.out

end Go.Proofs.Ytpehceccnjdfeaa
end

section
/- Swap: the program's answer, plain. -/
namespace Go.Proofs.Ytpehceccnjdfeaa

theorem pids_unique : ∀ (l : List Cl), (pids l).Nodup → ∀ (m m' : Nat) (c c' : Cl), l[m]? = some c → l[m']? = some c' → c.k = 1 → c'.k = 1 → c.p = c'.p → m = m'
  | [], _, m, _, c, _, h, _, _, _, _ => by simp at h
  | x :: l, hnd, m, m', c, c', h, h', hk, hk', hp => by
    rw [pids_cons] at hnd
    have hmem : ∀ (d : Cl) (i : Nat), l[i]? = some d → d.k = 1 → d.p ∈ pids l := by
      intro d i hd hdk
      unfold pids
      exact List.mem_map.2 ⟨d, List.mem_filter.2 ⟨List.mem_of_getElem? hd, by simpa using hdk⟩, rfl⟩
    have hnd2 : (pids l).Nodup := by
      split at hnd
      · exact (List.nodup_cons.1 hnd).2
      · exact hnd
    cases m with
    | zero =>
      simp at h; subst h
      rw [if_pos hk] at hnd
      cases m' with
      | zero => rfl
      | succ m' => exact absurd (hp ▸ hmem c' m' (by simpa using h') hk') (List.nodup_cons.1 hnd).1
    | succ m =>
      cases m' with
      | zero =>
        simp at h'; subst h'
        rw [if_pos hk'] at hnd
        exact absurd (hp ▸ hmem c m (by simpa using h) hk) (List.nodup_cons.1 hnd).1
      | succ m' => rw [pids_unique l hnd2 m m' c c' (by simpa using h) (by simpa using h') hk hk' hp]

theorem place_cases (q : Cl → Bool) (l : List Cl) : (∃ (i : Nat) (c : Cl), placeF q l = ((i : Int), true) ∧ l[i]? = some c ∧ q c = true) ∨ (placeF q l = (0, false) ∧ ∀ c ∈ l, q c = false) := by
  unfold placeF
  cases h : l.findIdx? q with
  | none => exact .inr ⟨rfl, List.findIdx?_eq_none_iff.1 h⟩
  | some i =>
    obtain ⟨hi, hq, _⟩ := List.findIdx?_eq_some_iff_getElem.1 h
    exact .inl ⟨i, l[i], rfl, by simp, hq⟩

theorem find_mem {l : List Cl} {r : R} (hr : readF l = some r) (p : Int) : (∃ (i : Nat) (c : Cl), findF l p = ((i : Int), true) ∧ l[i]? = some c ∧ c.k = 1 ∧ c.p = p ∧ p ∈ r.ids) ∨ (findF l p = (0, false) ∧ p ∉ r.ids) := by
  obtain ⟨hl, hok, _⟩ := (readF_iff l r).1 hr
  have hpi := (lay_fine r 0 0 0 hok).2
  rw [hl] at hpi
  unfold findF
  rw [hr]
  simp only []
  rcases place_cases (fun c => c.k == 1 && c.p == p) l with ⟨i, c, h1, h2, h3⟩ | ⟨h1, h2⟩
  · simp only [Bool.and_eq_true, beq_iff_eq] at h3
    refine .inl ⟨i, c, h1, h2, h3.1, h3.2, ?_⟩
    rw [← hpi]; unfold pids
    exact List.mem_map.2 ⟨c, List.mem_filter.2 ⟨List.mem_of_getElem? h2, by simpa using h3.1⟩, h3.2⟩
  · refine .inr ⟨h1, fun hm => ?_⟩
    rw [← hpi] at hm; unfold pids at hm
    obtain ⟨c, hc, rfl⟩ := List.mem_map.1 hm
    obtain ⟨hc1, hc2⟩ := List.mem_filter.1 hc
    have := h2 c hc1
    simp at hc2
    simp [hc2] at this

theorem swap_any (v : Value) (l : List Cl) (a b : Int) (w : World) (h : Reads w v l) : Calls Try.prog 46 #[v, .int .i64 a, .int .i64 b] w fun e w' => ListPost w (swapF l a b) e w' := by
  unfold swapF
  cases hr : readF l with
  | none => exact swap_40 v l a b w h hr
  | some r =>
    simp only []
    obtain ⟨hl, hok, hnd, _⟩ := (readF_iff l r).1 hr
    have hpi := (lay_fine r 0 0 0 hok).2
    have hfine := (lay_fine r 0 0 0 hok).1
    rw [hl] at hpi hfine
    rw [← hpi] at hnd
    rcases find_mem hr a with ⟨i, ci, f1, ci1, ck, cp, ha⟩ | ⟨f1, ha⟩
    · rcases find_mem hr b with ⟨j, cj, f2, cj1, ck2, cp2, hb⟩ | ⟨f2, hb⟩
      · rw [if_pos ⟨ha, hb⟩]
        have hil := (List.getElem?_eq_some_iff.1 ci1).1
        have hjl := (List.getElem?_eq_some_iff.1 cj1).1
        have ei : l[i] = ci := by rw [List.getElem?_eq_getElem hil] at ci1; exact Option.some.inj ci1
        have ej : l[j] = cj := by rw [List.getElem?_eq_getElem hjl] at cj1; exact Option.some.inj cj1
        have huniq : ∀ (m : Nat) (c : Cl), l[m]? = some c → (c.p = a → m = i) ∧ (c.p = b → m = j) := by
          intro m c hc
          have hf := hfine c (List.mem_of_getElem? hc)
          have hfi := hfine ci (List.mem_of_getElem? ci1)
          have hfj := hfine cj (List.mem_of_getElem? cj1)
          unfold CellFine at hf hfi hfj
          refine ⟨fun e => pids_unique l hnd m i c ci hc ci1 ?_ ck (by omega), fun e => pids_unique l hnd m j c cj hc cj1 ?_ ck2 (by omega)⟩ <;> omega
        obtain ⟨cj', hcj'⟩ : ∃ c, (l.set i { ci with p := b })[j]? = some c := ⟨(l.set i { ci with p := b })[j]'(by simpa using hjl), by simp⟩
        have key : (l.set i { ci with p := b }).set j { cj' with p := a } = l.map (swapC a b) := by
          apply List.ext_getElem?
          intro m
          rw [List.getElem?_map, List.getElem?_set, List.getElem?_set]
          rw [List.getElem?_set] at hcj'
          by_cases hij : i = j
          · subst hij
            rw [if_pos rfl, if_pos hil] at hcj'
            obtain rfl := Option.some.inj hcj'
            obtain rfl := Option.some.inj (ci1.symm.trans cj1)
            have hab : a = b := by omega
            subst hab
            by_cases hm : i = m
            · subst hm
              simp [ei, hil, swapC, cp]
            · rw [if_neg hm, if_neg hm]
              cases hc : l[m]? with
              | none => rfl
              | some c =>
                have := (huniq m c hc).1
                simp only [Option.map_some, swapC]
                rw [if_neg (fun e => hm (this e).symm), if_neg (fun e => hm (this e).symm)]
          · rw [if_neg hij, cj1] at hcj'
            obtain rfl := Option.some.inj hcj'
            have hab : ¬ b = a := fun e => hij ((huniq j cj cj1).1 (by omega)).symm
            by_cases hm : j = m
            · subst hm
              simp [ej, hjl, swapC, cp2, hab]
            · rw [if_neg hm]
              by_cases hm2 : i = m
              · subst hm2
                simp [ei, hil, swapC, cp]
              · rw [if_neg hm2]
                cases hc : l[m]? with
                | none => rfl
                | some c =>
                  have := huniq m c hc
                  simp only [Option.map_some, swapC]
                  rw [if_neg (fun e => hm2 (this.1 e).symm), if_neg (fun e => hm (this.2 e).symm)]
        rw [← key]
        exact swap_some v l a b w h r hr i j ci cj' f1 f2 ci1 hcj'
      · rw [if_neg (fun hh => hb hh.2)]
        exact swap_42 v l a b w h r hr _ _ _ _ f1 f2 (by simp)
    · rw [if_neg (fun hh => ha hh.1)]
      obtain ⟨j, two, f2⟩ : ∃ j two, findF l b = (j, two) := ⟨_, _, rfl⟩
      exact swap_42 v l a b w h r hr _ _ _ _ f1 f2 (by simp)

end Go.Proofs.Ytpehceccnjdfeaa
end
