/- '==' of two cells of a tree; slices.Index of cells; pair; parent; put. -/
import Derived.Test.YtpehceccnjdfeaaD0
import Derived.LaidEql
import Derived.Stop.Asserts
namespace Go.Proofs.Ytpehceccnjdfeaa
open Go.RowKit

/-- A cell's own block. -/
def CellAt (w : World) (a : A) : Prop := ∃ cs, w.heap[a.blk]? = some (.cells cs (if a.ty = 95 then 100 else 105) (0, 0))
theorem Rep.cellAt {w : World} {a : A} {r : R} (h : Rep w a r) : CellAt w a := by
  cases a with
  | leaf b =>
    cases r; simp only [Rep] at h
    obtain ⟨_, _, x, y, hb⟩ := h
    exact ⟨_, hb⟩
  | split b a off cap ks =>
    cases r; simp only [Rep] at h
    obtain ⟨_, _, ⟨x, y, hb⟩, _⟩ := h
    exact ⟨_, hb⟩

theorem info95' : Try.prog.info? 95 = some Try.t95 := by kernel_rfl
theorem info100' : Try.prog.info? 100 = some Try.t100 := by kernel_rfl
theorem info102' : Try.prog.info? 102 = some Try.t102 := by kernel_rfl
theorem info105' : Try.prog.info? 105 = some Try.t105 := by kernel_rfl

theorem eq90 {w : World} {x y : A} (hx : CellAt w x) (hy : CellAt w y) : (binOp .eql 90 x.val y.val).run Try.prog w = .ok (.bool (decide (x.blk = y.blk))) w := by
  obtain ⟨cx, hx⟩ := hx
  obtain ⟨cy, hy⟩ := hy
  cases x with
  | leaf b =>
    cases y with
    | leaf d =>
      by_cases h : b = d
      · subst h
        simpa [A.val, A.ty, A.ptr, A.blk] using run_eql_iface_ptr_same (P := Try.prog) w (⟨b, 0, none⟩ : Addr) Try.underlying90 Try.underlying95 info95' rfl info100'
      · have h2 : (⟨b, 0, none⟩ : Addr) ≠ ⟨d, 0, none⟩ := by simp [h]
        simpa [A.val, A.ty, A.ptr, A.blk, h] using run_eql_iface_ptr_other (P := Try.prog) w Try.underlying90 Try.underlying95 info95' rfl info100' (by decide) h2 hx hy
    | split d _ _ _ _ =>
      have h : b ≠ d := by
        rintro rfl
        simp only [A.blk] at hx hy
        rw [hx] at hy
        simp [A.ty] at hy
      simpa [A.val, A.ty, A.ptr, A.blk, h] using run_eql_iface_types (P := Try.prog) 95 102 (.pointer (some ⟨b, 0, none⟩)) (.pointer (some ⟨d, 0, none⟩)) Try.underlying90 (by decide) w
  | split b _ _ _ _ =>
    cases y with
    | leaf d =>
      have h : b ≠ d := by
        rintro rfl
        simp only [A.blk] at hx hy
        rw [hx] at hy
        simp [A.ty] at hy
      simpa [A.val, A.ty, A.ptr, A.blk, h] using run_eql_iface_types (P := Try.prog) 102 95 (.pointer (some ⟨b, 0, none⟩)) (.pointer (some ⟨d, 0, none⟩)) Try.underlying90 (by decide) w
    | split d _ _ _ _ =>
      by_cases h : b = d
      · subst h
        simpa [A.val, A.ty, A.ptr, A.blk] using run_eql_iface_ptr_same (P := Try.prog) w (⟨b, 0, none⟩ : Addr) Try.underlying90 Try.underlying102 info102' rfl info105'
      · have h2 : (⟨b, 0, none⟩ : Addr) ≠ ⟨d, 0, none⟩ := by simp [h]
        simpa [A.val, A.ty, A.ptr, A.blk, h] using run_eql_iface_ptr_other (P := Try.prog) w Try.underlying90 Try.underlying102 info102' rfl info105' (by decide) h2 hx hy

set_option maxRecDepth 100000 in
theorem index73 (a off n c j : Nat) (ks : List A) (kd : A) (w : World) (hn : Hid (n = ks.length)) (hl : n ≤ 100000) (hr : Hid (Row w a off c (ks.map A.val))) (hat : Hid (∀ k ∈ ks, CellAt w k)) (hj : Hid (ks[j]? = some kd)) (hne : Hid (∀ (i : Nat) (k : A), i < j → ks[i]? = some k → k.blk ≠ kd.blk)) :
    Calls Try.prog 73 #[.slice (some ⟨a, off, none⟩) n c, kd.val] w fun e w' => e = .returned (.int .i64 j) ∧ w = w' := by
  obtain ⟨ty, hv, _⟩ := val_parts kd
  have HV := Lib.hid hv
  rw [hv]
  clear hv
  go_enter Try.func73, Try.ntmps73
  go_wp2_with fail
  go_loop [8] (fun i => ∃ q : Nat, q ≤ j ∧ i = .int .i64 q) (fun i => j - (intOf i).toNat)
  case atStart => exact ⟨0, Nat.zero_le _, rfl⟩
  case round =>
    obtain ⟨q, hq, rfl⟩ := hrel
    have hjn : j < n := by have := (List.getElem?_eq_some_iff.1 hj.out).1; have := hn.out; omega
    have hqn : q < n := by omega
    obtain ⟨k, hk⟩ : ∃ k, ks[q]? = some k := ⟨ks[q]'(by rw [← hn.out]; exact hqn), by simp⟩
    have c1 : w.cell? ⟨a, off + q, none⟩ = some k.val := hr.out.cell (by simp [hk])
    have heq := eq90 (hat.out kd (List.mem_of_getElem? hj.out)) (hat.out k (List.mem_of_getElem? hk))
    obtain ⟨ty2, hv2, _⟩ := val_parts k
    rw [HV.out, hv2] at heq
    rw [hv2] at c1
    have HK := Lib.hid hk; clear hk hv2
    by_cases hqj : q = j
    · subst hqj
      have : k = kd := Option.some.inj (HK.out.symm.trans hj.out)
      subst this
      rw [show decide (k.blk = k.blk) = true by simp] at heq
      go_wp2_with fail
      go_ret
      exact ⟨rfl, rfl⟩
    · rw [show decide (kd.blk = k.blk) = false by simpa using (hne.out q k (by omega) HK.out).symm] at heq
      go_wp2_with fail
      have hlt : q < j := by omega
      exact ⟨⟨q + 1, hlt, num_succ q⟩, meas_lt hlt⟩

/-- pair: the two cells in their order. -/
def pairA (u v : A) (b : Bool) : List A := if b then [v, u] else [u, v]
set_option maxRecDepth 100000 in
theorem pair_any (u v : A) (b : Bool) (w : World) : Calls Try.prog 75 #[u.val, v.val, .bool b] w fun e w' =>
    e = .returned (.slice (some ⟨w.heap.size, 0, none⟩) 2 2) ∧ w' = w.alloc (.cells ((pairA u v b).map A.val).toArray 90) := by
  obtain ⟨t1, h1, _⟩ := val_parts u
  obtain ⟨t2, h2, _⟩ := val_parts v
  have H1 := Lib.hid h1; have H2 := Lib.hid h2
  rw [h1, h2]
  clear h1 h2
  cases b
  · go_enter Try.func75, Try.ntmps75
    go_wp2_with fail
    go_ret
    refine ⟨rfl, ?_⟩
    simp [pairA, H1.out, H2.out]
  · go_enter Try.func75, Try.ntmps75
    go_wp2_with fail
    go_ret
    refine ⟨rfl, ?_⟩
    simp [pairA, H1.out, H2.out]

/-- parent: the split in which the last cell of a way stands. -/
theorem parent_one (a : Option Addr) (n c : Nat) (w : World) (h : n < 2) : Calls Try.prog 72 #[.slice a n c] w fun e w' => e = .returned (.pointer none) ∧ w = w' := by
  have h0 : (n : Int) < 2 := by omega
  go_enter Try.func72, Try.ntmps72
  go_wp2_with fail
  go_ret
  exact ⟨rfl, rfl⟩
theorem parent_up (g n c b : Nat) (w : World) (h : 2 ≤ n) (hc : n ≤ c) (hc2 : c ≤ maxLen) (hcell : w.cell? ⟨g, n - 2, none⟩ = some (.iface 102 (.pointer (some ⟨b, 0, none⟩)))) : Calls Try.prog 72 #[.slice (some ⟨g, 0, none⟩) n c] w fun e w' => e = .returned (.pointer (some ⟨b, 0, none⟩)) ∧ w = w' := by
  have h0 : ¬ (n : Int) < 2 := by omega
  have t1 := ta_split
  have hz : ((n : Int) - 2).toNat = n - 2 := by omega
  unfold maxLen at hc2
  go_enter Try.func72, Try.ntmps72
  go_wp2_with fail
  go_ret
  exact ⟨rfl, rfl⟩

end Go.Proofs.Ytpehceccnjdfeaa
