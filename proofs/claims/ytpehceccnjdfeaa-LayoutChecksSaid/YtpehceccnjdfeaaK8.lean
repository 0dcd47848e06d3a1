import Derived.Test.YtpehceccnjdfeaaK6
import Derived.Test.YtpehceccnjdfeaaJ2
import Derived.OwnWalk
import Derived.Lib.QuietBelow

section
/- Check, Panes, Least: the program's and the reference's; the law's sameInts. -/
namespace Go.Proofs.Ytpehceccnjdfeaa
open Go.RowKit

set_option maxRecDepth 100000 in
theorem sameInts_any (v1 v2 : Value) (l : List Int) (w : World) (h1 : Reads1 w v1 (ints l)) (h2 : Reads1 w v2 (ints l)) (hl : l.length ≤ 100000) :
    Calls Try.prog 41 #[v1, v2] w fun e w' => e = .returned (.bool true) ∧ ∃ m, w' = w.drewN m := by
  obtain ⟨a1, c1, rfl, r1⟩ := h1
  obtain ⟨a2, c2, rfl, r2⟩ := h2
  have hlen : (ints l).length = l.length := by simp [ints]
  rw [hlen] at *
  generalize hn : l.length = n at *
  have HN := Lib.hid hn; have H1 := Lib.hid r1; have H2 := Lib.hid r2
  clear hn r1 r2 hlen
  go_enter Try.func41, Try.ntmps41
  go_wp2_with fail
  go_loopw [5] (fun i wr => ∃ j : Nat, j ≤ n ∧ i = .int .i64 j ∧ Hid (∃ q, wr = w.drewN q)) (fun i _ => n - (intOf i).toNat)
  case atStart => exact ⟨0, Nat.zero_le _, rfl, 0, rfl⟩
  case round =>
    obtain ⟨j, hj, rfl, hq⟩ := hrel
    obtain ⟨q, rfl⟩ := hq.out
    by_cases hlt : j < n
    · obtain ⟨p, hp⟩ : ∃ p, l[j]? = some p := ⟨l[j]'(by rw [HN.out]; exact hlt), by simp⟩
      obtain ⟨b, off, rfl, hcc⟩ := H1.out (by simp only [ints, List.length_map]; have := HN.out; omega)
      obtain ⟨b', off', rfl, hcc'⟩ := H2.out (by simp only [ints, List.length_map]; have := HN.out; omega)
      have c1 := hcc j (.int .i64 p) (by simp [ints, hp])
      have c2 := hcc' j (.int .i64 p) (by simp [ints, hp])
      clear hp hcc hcc'
      go_wp2_with fail
      go_quiet (fail)
      go_wp2_with fail
      exact ⟨⟨j + 1, hlt, num_succ j, ⟨_, rfl⟩⟩, meas_lt hlt⟩
    · go_wp2_with fail
      go_ret
      exact ⟨rfl, q, rfl⟩

def checkF (l : List Cl) : Int := if (readF l).isSome then 0 else 40

theorem rcheck_any (v : Value) (l : List Cl) (w : World) (h : Reads w v l) : Calls Try.prog 40 #[v] w fun e w' => NumPost w (checkF l) e w' := by
  have HT := tree_any v l w h
  unfold checkF
  cases hr : readF l with
  | none =>
    rw [hr] at HT
    have HT := Lib.hid HT; clear h hr
    go_enter Try.func40, Try.ntmps40
    go_wp2_with fail
    refine HT.out.mono ?_
    rintro e w1 ⟨hb1, rfl⟩
    have HB1 := Lib.hid hb1; clear hb1
    unfold zeroNode
    go_wp2_with fail
    go_ret
    exact ⟨rfl, HB1.out.alloc HB1.out.size _⟩
  | some r =>
    rw [hr] at HT
    have HT := Lib.hid HT; clear h hr
    go_enter Try.func40, Try.ntmps40
    go_wp2_with fail
    refine HT.out.mono ?_
    rintro e w1 ⟨hb1, sa, sc, rfl, _⟩
    have HB1 := Lib.hid hb1; clear hb1
    go_wp2_with fail
    go_ret
    exact ⟨rfl, HB1.out.alloc HB1.out.size _⟩

def panesF (l : List Cl) : List Int := match readF l with | none => [] | some r => r.ids

theorem panesF_len (l : List Cl) : (panesF l).length ≤ 1000 := by
  unfold panesF
  cases hr : readF l with
  | none => simp
  | some r =>
    have RI := read_is hr
    have h1 := RI.len; have h2 := RI.cnt; have h3 := ids_cnt r
    simp only []; omega

theorem panes_any (v : Value) (l : List Cl) (w : World) (h : Reads w v l) : Calls Try.prog 42 #[v] w fun e w' => IntsPost w (panesF l) e w' := by
  have HREAD := read_any v l w h
  unfold panesF
  cases hr : readF l with
  | none =>
    rw [hr] at HREAD
    have HR := Lib.hid HREAD; clear HREAD h hr
    go_enter Try.func42, Try.ntmps42
    go_wp2_with fail
    refine HR.out.mono ?_
    rintro e w1 ⟨hb, rfl⟩
    have HB := Lib.hid hb; clear hb
    go_wp2_with fail
    go_ret
    exact ⟨_, rfl, by simpa [ints] using World.ownsRow_nil _ _ _ _, HB.out⟩
  | some r =>
    simp only []
    rw [hr] at HREAD
    have RI := read_is hr
    have hlen := RI.len
    have hcn := RI.cnt
    have HR := Lib.hid HREAD; have HRI := Lib.hid RI
    clear HREAD h hr RI
    go_enter Try.func42, Try.ntmps42
    go_wp2_with fail
    refine HR.out.mono ?_
    rintro e w1 ⟨hb, a, rfl, hrep, hpos, _⟩
    obtain ⟨ty, hv, _⟩ := val_parts a
    have ho := order_any a r 0 0 w1 hrep hpos HRI.out.fed (by omega)
    rw [hv] at ho ⊢
    have HO := Lib.hid ho; have HB1 := Lib.hid hb
    clear ho hb hrep hpos hv HR HRI
    go_wp2_with fail
    refine HO.out.mono ?_
    rintro e w2 ⟨v2, rfl, o2, hb2⟩
    have HO2 := Lib.hid o2; have HB2 := Lib.hid (HB1.out.trans (hb2.mono HB1.out.size)); have HS := Lib.hid HB1.out.size
    clear o2 hb2
    go_wp2_with fail
    go_ret
    exact ⟨_, rfl, ownsRow_mono HO2.out HS.out, HB2.out⟩

theorem rpanes_any (v : Value) (l : List Cl) (w : World) (h : Reads w v l) : Calls Try.prog 43 #[v] w fun e w' => IntsPost w (panesF l) e w' := by
  have HT := tree_any v l w h
  unfold panesF
  cases hr : readF l with
  | none =>
    rw [hr] at HT
    have HT := Lib.hid HT; clear h hr
    go_enter Try.func43, Try.ntmps43
    go_wp2_with fail
    refine HT.out.mono ?_
    rintro e w1 ⟨hb1, rfl⟩
    have HB1 := Lib.hid hb1; clear hb1
    unfold zeroNode
    go_wp2_with fail
    go_ret
    exact ⟨_, rfl, by simpa [ints] using World.ownsRow_nil _ _ _ _, HB1.out.alloc HB1.out.size _⟩
  | some r =>
    simp only []
    rw [hr] at HT
    have RI := read_is hr
    have hlen := RI.len
    have hcn := RI.cnt
    have HT := Lib.hid HT; clear h hr RI
    go_enter Try.func43, Try.ntmps43
    go_wp2_with fail
    refine HT.out.mono ?_
    rintro e w1 ⟨hb1, sa, sc, rfl, hkk⟩
    have hrep : NRep w1 (.agg #[.int .i64 r.kind, .int .i64 r.w, .int .i64 r.h, .int .i64 r.id, .slice sa r.kids.length sc]) r := ⟨_, rfl, hkk.nk⟩
    have hb2 : Below w1.heap.size w1 (w1.alloc (.cells #[.int .i64 r.kind, .int .i64 r.w, .int .i64 r.h, .int .i64 r.id, .slice sa r.kids.length sc] 88)) := (Below.refl _ _).alloc (Nat.le_refl _) _
    have hI := rids_any _ r _ _ (Nat.le_refl _) (hrep.below hb2) (by omega)
    have HI := Lib.hid hI; have HB2 := Lib.hid (hb1.trans (hb2.mono hb1.size)); clear hI hb1 hkk hrep HT hb2
    go_wp2_with fail
    refine HI.out.mono ?_
    rintro e w3 ⟨v3, rfl, o3, hb3⟩
    have HO3 := Lib.hid o3; have HB3 := Lib.hid (HB2.out.trans (hb3.mono HB2.out.size)); have HS := Lib.hid HB2.out.size
    clear o3 hb3
    go_wp2_with fail
    go_ret
    exact ⟨_, rfl, ownsRow_mono HO3.out HS.out, HB3.out⟩

def leastF (l : List Cl) : Int × Int × Int := match readF l with | none => (0, 0, 40) | some r => (r.w - r.roomF 2, r.h - r.roomF 3, 0)

/-- Three numbers. -/
def ThreePost (w : World) (res : Int × Int × Int) (e : Ending) (w' : World) : Prop := e = .returned (.tuple #[.int .i64 res.1, .int .i64 res.2.1, .int .i64 res.2.2]) ∧ Below w.heap.size w w'

set_option maxRecDepth 100000 in
theorem least_any (v : Value) (l : List Cl) (w : World) (h : Reads w v l) : Calls Try.prog 37 #[v] w fun e w' => ThreePost w (leastF l) e w' := by
  have HREAD := read_any v l w h
  unfold leastF
  cases hr : readF l with
  | none =>
    rw [hr] at HREAD
    have HR := Lib.hid HREAD; clear HREAD h hr
    go_enter Try.func37, Try.ntmps37
    go_wp2_with fail
    refine HR.out.mono ?_
    rintro e w1 ⟨hb, rfl⟩
    have HB := Lib.hid hb; clear hb
    go_wp2_with fail
    go_ret3
    exact ⟨rfl, HB.out⟩
  | some r =>
    simp only []
    rw [hr] at HREAD
    have RI := read_is hr
    have hlen := RI.len
    have hcn := RI.cnt
    have hbd := RI.bd.mono (lo' := 0) (hi' := 1000) (by omega) (by omega)
    have hwh : (0 ≤ r.w ∧ r.w ≤ 1000) ∧ 0 ≤ r.h ∧ r.h ≤ 1000 := by
      cases r; simp only [R.Bd] at hbd; exact ⟨⟨hbd.1, hbd.2.1⟩, hbd.2.2.1, hbd.2.2.2.1⟩
    have q1 := room_bd 2 r hbd
    have q2 := room_bd 3 r hbd
    have x1 : IntKind.i64.wrap (r.w - r.roomF 2) = r.w - r.roomF 2 := by rw [IntKind.wrap_i64]; omega
    have x2 : IntKind.i64.wrap (r.h - r.roomF 3) = r.h - r.roomF 3 := by rw [IntKind.wrap_i64]; omega
    have HR := Lib.hid HREAD; have HBD := Lib.hid hbd
    clear HREAD h hr RI hbd
    go_enter Try.func37, Try.ntmps37
    go_wp2_with fail
    refine HR.out.mono ?_
    rintro e w1 ⟨hb, a, rfl, hrep, _⟩
    obtain ⟨ty, hv, hm⟩ := val_parts a
    have HW : Hid (∀ w, InvokeC Try.prog a.val "mullion/layout.where" #[] w fun e w' => e = .returned (.pointer (some ⟨a.blk, 0, none⟩)) ∧ w = w') := Lib.hid fun w => where_inv a w
    have HI : Hid (∀ dir W, (∃ n, W = w1.drewN n) → InvokeC Try.prog a.val "mullion/layout.room" #[.int .i64 dir] W fun e w' => e = .returned (.int .i64 (r.roomF dir)) ∧ W = w') := by
      refine Lib.hid fun dir W hW => ?_
      obtain ⟨n, rfl⟩ := hW
      exact room_inv dir (hrep.below (below_drewN (Below.refl _ _) n)) HBD.out (by omega)
    have hcells : w1.cell? ⟨a.blk, 2, none⟩ = some (.int .i64 r.w) ∧ w1.cell? ⟨a.blk, 3, none⟩ = some (.int .i64 r.h) := by
      cases a with
      | leaf b =>
        cases r
        simp only [Rep] at hrep
        obtain ⟨_, _, x, y, hx⟩ := hrep
        exact ⟨blk_cell hx 2, blk_cell hx 3⟩
      | split b a off cap ks =>
        cases r
        simp only [Rep] at hrep
        obtain ⟨_, _, ⟨x, y, hx⟩, _⟩ := hrep
        exact ⟨blk_cell hx 2, blk_cell hx 3⟩
    obtain ⟨k2, k3⟩ := hcells
    have HI2 := Lib.hid (HI.out 2); have HI3 := Lib.hid (HI.out 3); clear HI
    rw [hv] at HW HI2 HI3 ⊢
    have HB := Lib.hid hb
    clear hb hrep hv hm HR HBD
    generalize e2 : r.roomF 2 = s2 at *
    generalize e3 : r.roomF 3 = s3 at *
    have HE2 := Lib.hid e2; have HE3 := Lib.hid e3; clear e2 e3
    go_wp2_with (first | ((with_reducible refine wpList_same0 rfl (.tmp 11) "mullion/layout.where" #[] rfl (.pointer (some ⟨a.blk, 0, none⟩)) ?_ ?_); exact HW.out _))
    refine wp_region_quiet_lit (by kernel_rfl) (by kernel_rfl) ?_
    repeat (any_goals (first
      | ((with_reducible refine wpQuiet_inv1 rfl (.tmp 17) (.const (.int .i64 2)) "mullion/layout.room" #[3] rfl (.int .i64 s2) ?_ ?_); exact HI2.out; go_simp)
      | ((with_reducible refine wpQuiet_inv1 rfl (.tmp 24) (.const (.int .i64 3)) "mullion/layout.room" #[3] rfl (.int .i64 s3) ?_ ?_); exact HI3.out; go_simp)
      | go_big_quiet_step (fail)))
    refine wpQuiet_nil ?_
    intro nq1
    go_wp2_with fail
    go_ret3
    exact ⟨by rw [HE2.out, HE3.out]; simp_all, below_drewN HB.out _⟩

end Go.Proofs.Ytpehceccnjdfeaa
end

section
/- The reference's Least. -/
namespace Go.Proofs.Ytpehceccnjdfeaa
open Go.RowKit

set_option maxRecDepth 100000 in
set_option maxHeartbeats 1000000 in
theorem rleast_any (v : Value) (l : List Cl) (w : World) (h : Reads w v l) : Calls Try.prog 38 #[v] w fun e w' => ThreePost w (leastF l) e w' := by
  have HT := tree_any v l w h
  unfold leastF
  cases hr : readF l with
  | none =>
    rw [hr] at HT
    have HT := Lib.hid HT; clear h hr
    go_enter Try.func38, Try.ntmps38
    go_wp2_with fail
    refine HT.out.mono ?_
    rintro e w1 ⟨hb1, rfl⟩
    have HB1 := Lib.hid hb1; clear hb1
    unfold zeroNode
    go_wp2_with fail
    go_ret3
    exact ⟨rfl, HB1.out.alloc HB1.out.size _⟩
  | some r =>
    simp only []
    rw [hr] at HT
    have RI := read_is hr
    have hlen := RI.len
    have hcn := RI.cnt
    have hbd := RI.bd.mono (lo' := 0) (hi' := 1000) (by omega) (by omega)
    have hwh : (0 ≤ r.w ∧ r.w ≤ 1000) ∧ 0 ≤ r.h ∧ r.h ≤ 1000 := by
      cases r; simp only [R.Bd] at hbd; exact ⟨⟨hbd.1, hbd.2.1⟩, hbd.2.2.1, hbd.2.2.2.1⟩
    have q1 := room_bd 2 r hbd
    have q2 := room_bd 3 r hbd
    have x1 : IntKind.i64.wrap (r.w - r.roomF 2) = r.w - r.roomF 2 := by rw [IntKind.wrap_i64]; omega
    have x2 : IntKind.i64.wrap (r.h - r.roomF 3) = r.h - r.roomF 3 := by rw [IntKind.wrap_i64]; omega
    have HT := Lib.hid HT; have HBD := Lib.hid hbd
    clear h hr RI hbd
    go_enter Try.func38, Try.ntmps38
    go_wp2_with fail
    refine HT.out.mono ?_
    rintro e w1 ⟨hb1, sa, sc, rfl, hkk⟩
    have hrep : NRep w1 (.agg #[.int .i64 r.kind, .int .i64 r.w, .int .i64 r.h, .int .i64 r.id, .slice sa r.kids.length sc]) r := ⟨_, rfl, hkk.nk⟩
    have hx := heap_alloc_new w1 (.cells #[.int .i64 r.kind, .int .i64 r.w, .int .i64 r.h, .int .i64 r.id, .slice sa r.kids.length sc] 88)
    have hba : Below w1.heap.size w1 (w1.alloc (.cells #[.int .i64 r.kind, .int .i64 r.w, .int .i64 r.h, .int .i64 r.id, .slice sa r.kids.length sc] 88)) := (Below.refl _ _).alloc (Nat.le_refl _) _
    have HRC : Hid (∀ dir W, Below w1.heap.size w1 W → Calls Try.prog 90 #[.agg #[.int .i64 r.kind, .int .i64 r.w, .int .i64 r.h, .int .i64 r.id, .slice sa r.kids.length sc], .int .i64 dir] W fun e w' => NumPost W (r.roomF dir) e w') :=
      Lib.hid fun dir W hW => rroom_any r _ dir W (hrep.below hW) HBD.out (by omega)
    have HB2 := Lib.hid (hb1.trans (hba.mono hb1.size))
    clear hkk hrep HT HBD hb1
    have HR2 := Lib.hid (HRC.out 2); have HR3 := Lib.hid (HRC.out 3); clear HRC
    generalize e2 : r.roomF 2 = s2 at *
    generalize e3 : r.roomF 3 = s3 at *
    have HE2 := Lib.hid e2; have HE3 := Lib.hid e3; clear e2 e3
    go_wp2_with fail
    generalize hw2 : w1.alloc (.cells #[.int .i64 r.kind, .int .i64 r.w, .int .i64 r.h, .int .i64 r.id, .slice sa r.kids.length sc] 88) = w2 at *
    have k0 : w2.cell? ⟨w1.heap.size, 0, none⟩ = some (.int .i64 r.kind) := blk_cell hx 0
    have k1 : w2.cell? ⟨w1.heap.size, 1, none⟩ = some (.int .i64 r.w) := blk_cell hx 1
    have k2 : w2.cell? ⟨w1.heap.size, 2, none⟩ = some (.int .i64 r.h) := blk_cell hx 2
    have k3 : w2.cell? ⟨w1.heap.size, 3, none⟩ = some (.int .i64 r.id) := blk_cell hx 3
    have k4 : w2.cell? ⟨w1.heap.size, 4, none⟩ = some (.slice sa r.kids.length sc) := blk_cell hx 4
    have m0 := cell_regrown k0
    have m1 := cell_regrown k1
    have m2 := cell_regrown k2
    have m3 := cell_regrown k3
    have m4 := cell_regrown k4
    have C2 : Hid (∀ d os, Calls Try.prog 90 #[.agg #[.int .i64 r.kind, .int .i64 r.w, .int .i64 r.h, .int .i64 r.id, .slice sa r.kids.length sc], .int .i64 2] (Go.Sort.grow (redrawn w2 d) os) fun e w'' => e = .returned (.int .i64 s2) ∧ ∃ p : Regrown, w'' = Go.Sort.grow (redrawn w2 p.d) p.os) :=
      Lib.hid fun d os => Calls.regrown_of (HR2.out _ (hba.trans ((below_regrown w2 d os).mono hba.size)))
    have C3 : Hid (∀ d os, Calls Try.prog 90 #[.agg #[.int .i64 r.kind, .int .i64 r.w, .int .i64 r.h, .int .i64 r.id, .slice sa r.kids.length sc], .int .i64 3] (Go.Sort.grow (redrawn w2 d) os) fun e w'' => e = .returned (.int .i64 s3) ∧ ∃ p : Regrown, w'' = Go.Sort.grow (redrawn w2 p.d) p.os) :=
      Lib.hid fun d os => Calls.regrown_of (HR3.out _ (hba.trans ((below_regrown w2 d os).mono hba.size)))
    clear hx hba k0 k1 k2 k3 k4 HR2 HR3
    refine wp_region_quiet_below (by kernel_rfl) (by kernel_rfl) ?_
    repeat (quiet_step (first | with_reducible exact C2.out _ _ | with_reducible exact C3.out _ _))
    refine wpQuiet_nil ?_
    intro _ hw'
    obtain ⟨⟨dq, osq⟩, hw''⟩ := hw'
    subst hw''
    go_wp2_with fail
    go_ret3
    have hbr := below_regrown w2 dq osq
    exact ⟨by rw [HE2.out, HE3.out]; simp_all, HB2.out.trans (hbr.mono HB2.out.size)⟩

end Go.Proofs.Ytpehceccnjdfeaa
end
