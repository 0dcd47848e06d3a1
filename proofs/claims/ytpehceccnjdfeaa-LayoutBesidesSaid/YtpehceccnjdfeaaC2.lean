/- leaves: the panes of a tree. -/
import Derived.Test.YtpehceccnjdfeaaC1
namespace Go.Proofs.Ytpehceccnjdfeaa
open Go.RowKit

mutual
/-- The blocks of the panes. -/
def A.lvs : A → List Nat
  | .leaf b => [b]
  | .split _ _ _ _ ks => lvsL ks
def lvsL : List A → List Nat
  | [] => []
  | a :: tl => a.lvs ++ lvsL tl
end
theorem lvsL_append (l m : List A) : lvsL (l ++ m) = lvsL l ++ lvsL m := by
  induction l with
  | nil => rfl
  | cons a l ih => simp [lvsL, ih]

mutual
/-- Each cell that is cut has a child. -/
def R.Fed : R → Prop
  | .mk k _ _ _ kids => (k = 1 ∨ kids ≠ []) ∧ FedL kids
def FedL : List R → Prop
  | [] => True
  | r :: rs => r.Fed ∧ FedL rs
end
theorem FedL_mem {r : R} {l : List R} (h : FedL l) (m : r ∈ l) : r.Fed := by
  induction l with
  | nil => cases m
  | cons a l ih =>
    obtain ⟨h1, h2⟩ := h
    rcases List.mem_cons.1 m with rfl | m
    · exact h1
    · exact ih h2 m

mutual
theorem lvs_len {w : World} : ∀ (a : A) (r : R), Rep w a r → a.lvs.length ≤ r.cnt
  | .leaf b, .mk k W H id kids, _ => by simp [A.lvs, R.cnt]
  | .split b a off cap ks, .mk k W H id kids, h => by
    simp only [Rep] at h
    have := lvsL_len ks kids h.2.2.2.2
    simp only [A.lvs, R.cnt]; omega
theorem lvsL_len {w : World} : ∀ (tl : List A) (rs : List R), Reps w tl rs → (lvsL tl).length ≤ cntL rs
  | [], [], _ => by simp [lvsL, cntL]
  | a :: tl, r :: rs, h => by
    simp only [Reps] at h
    have h1 := lvs_len a r h.1
    have h2 := lvsL_len tl rs h.2
    simp only [lvsL, cntL, List.length_append]; omega
  | [], _ :: _, h => by simp [Reps] at h
  | _ :: _, [], h => by simp [Reps] at h
end
mutual
theorem lvs_pos {w : World} : ∀ (a : A) (r : R), Rep w a r → r.Fed → 0 < a.lvs.length
  | .leaf b, .mk k W H id kids, _, _ => by simp [A.lvs]
  | .split b a off cap ks, .mk k W H id kids, h, hf => by
    simp only [Rep] at h
    simp only [R.Fed] at hf
    obtain ⟨_, hk, _, _, h5⟩ := h
    have h1 : kids ≠ [] := by
      rcases hf.1 with e | e
      · omega
      · exact e
    exact lvsL_pos ks kids h5 hf.2 h1
theorem lvsL_pos {w : World} : ∀ (tl : List A) (rs : List R), Reps w tl rs → FedL rs → rs ≠ [] → 0 < (lvsL tl).length
  | [], [], _, _, h => absurd rfl h
  | a :: tl, r :: rs, h, hf, _ => by
    simp only [Reps] at h
    simp only [FedL] at hf
    have h1 := lvs_pos a r h.1 hf.1
    simp only [lvsL, List.length_append]; omega
  | [], _ :: _, h, _, _ => by simp [Reps] at h
  | _ :: _, [], h, _, _ => by simp [Reps] at h
end

def ptrOf (b : Nat) : Value := .pointer (some ⟨b, 0, none⟩)

def LeavesPost (w : World) (bs : List Nat) (e : Ending) (w' : World) : Prop :=
  ∃ v, e = .returned v ∧ w'.ownsRow w.heap.size 95 1 v bs.length (bs.map ptrOf) ∧ Below w.heap.size w w'

def LeavesSaid (n : Nat) : Prop := ∀ (a : A) (r : R) (w : World), r.depth ≤ n → Rep w a r → r.Fed → r.cnt ≤ 1000 → Calls Try.prog 89 #[a.val] w (LeavesPost w a.lvs)

set_option maxRecDepth 100000 in
theorem leaves_leaf (b : Nat) (w : World) : Calls Try.prog 89 #[.iface 95 (.pointer (some ⟨b, 0, none⟩))] w fun e w' => LeavesPost w [b] e w' := by
  have t1 := ta_leaf_leaf
  go_enter Try.func89, Try.ntmps89
  go_wp2_with fail
  go_ret
  refine ⟨_, rfl, ?_, (Below.refl _ _).alloc (Nat.le_refl _) _⟩
  exact World.ownsRow_lit (base := w.heap.size) (e := 95) (size := 1) w #[.pointer (some ⟨b, 0, none⟩)] 1 (Nat.le_refl _) (by unfold maxLen; omega) (by rfl)

def LeavesLoop (w : World) (ks : List A) (j : Nat) (v : Value) (wr : World) : Prop :=
  wr.ownsRow w.heap.size 95 1 v (lvsL (ks.take j)).length ((lvsL (ks.take j)).map ptrOf) ∧ Below w.heap.size w wr

theorem leaves_round {n : Nat} (ih : LeavesSaid n) {w wr : World} {a off cap m : Nat} {ks : List A} {kids : List R} {j : Nat} {v : Value} (hdep : depthL kids ≤ n) (hm : m = ks.length) (hrow : Row w a off cap (ks.map A.val)) (hks : Reps w ks kids) (hfed : FedL kids)
    (hcnt : cntL kids + 1 ≤ 1000) (hlt : j < m) (hL : LeavesLoop w ks j v wr) :
    ∃ kd : A, ks[j]? = some kd ∧ wr.cell? ⟨a, off + j, none⟩ = some kd.val ∧ 0 < kd.lvs.length ∧ (lvsL (ks.take j)).length + kd.lvs.length ≤ 1000 ∧ Calls Try.prog 89 #[kd.val] wr (LeavesPost wr kd.lvs) := by
  obtain ⟨kd, hkd⟩ : ∃ kd, ks[j]? = some kd := ⟨ks[j]'(by omega), by simp⟩
  have hI := (Reps_iff w ks kids).1 hks
  obtain ⟨r, hr⟩ : ∃ r, kids[j]? = some r := ⟨kids[j]'(by omega), by simp⟩
  have hmem : r ∈ kids := List.mem_of_getElem? hr
  have hrep := hI.2 j kd r hkd hr
  have hw := hL.2.size
  have hrep2 : Rep wr kd r := hrep.below (hL.2)
  have hc : w.cell? ⟨a, off + j, none⟩ = some kd.val := hrow.cell (by simp [hkd])
  have hcc : r.cnt ≤ 1000 := by
    have : ∀ (l : List R), r ∈ l → r.cnt ≤ cntL l := by
      intro l hl
      induction l with
      | nil => cases hl
      | cons x l ih =>
        simp only [cntL]
        rcases List.mem_cons.1 hl with rfl | hl
        · omega
        · have := ih hl; omega
    have := this kids hmem; omega
  refine ⟨kd, hkd, ?_, lvs_pos kd r hrep (FedL_mem hfed hmem), ?_, ih kd r wr (Nat.le_trans (depth_mem hmem) hdep) hrep2 (FedL_mem hfed hmem) hcc⟩
  · rw [← hc]
    exact hL.2.cell (World.block_lt_of_cell? w _ hc)
  · have h1 := lvsL_len ks kids hks
    have h2 : ks = ks.take j ++ kd :: ks.drop (j + 1) := by
      obtain ⟨hj, rfl⟩ := List.getElem?_eq_some_iff.1 hkd
      rw [List.getElem_cons_drop, List.take_append_drop]
    rw [h2, lvsL_append] at h1
    simp only [lvsL, List.length_append] at h1
    omega

set_option maxRecDepth 100000 in
set_option maxHeartbeats 1000000 in
theorem leaves_split (n : Nat) (ih : Hid (LeavesSaid n)) (b a off cap m : Nat) (ks : List A) (kids : List R) (w : World) (hdep : Hid (depthL kids ≤ n)) (hm : Hid (m = ks.length)) (hm2 : m ≤ 1000)
    (hc : w.cell? ⟨b, 5, none⟩ = some (.slice (some ⟨a, off, none⟩) m cap)) (hrow : Hid (Row w a off cap (ks.map A.val))) (hks : Hid (Reps w ks kids)) (hfed : Hid (FedL kids)) (hcnt : Hid (cntL kids + 1 ≤ 1000)) :
    Calls Try.prog 89 #[.iface 102 (.pointer (some ⟨b, 0, none⟩))] w fun e w' => LeavesPost w (lvsL ks) e w' := by
  have t1 := ta_split_leaf
  have t2 := ta_split_split
  obtain ⟨i0, hi0, hz0, hz1, hz2⟩ := info_parts info95
  have Hi := Lib.hid hi0; have Hz0 := Lib.hid hz0; have Hz1 := Lib.hid hz1; have Hz2 := Lib.hid hz2
  clear hi0 hz0 hz1 hz2
  go_enter Try.func89, Try.ntmps89
  go_wp2_with fail
  go_loopw [5, 22] (fun v i wr => ∃ j : Nat, j ≤ m ∧ i = .int .i64 j ∧ LeavesLoop w ks j v wr) (fun _ i _ => m - (intOf i).toNat)
  case atStart => exact ⟨0, Nat.zero_le _, rfl, by simpa [lvsL] using World.ownsRow_nil _ _ _ _, Below.refl _ _⟩
  case round =>
    obtain ⟨j, hj, rfl, hL⟩ := hrel
    obtain ⟨va, vc, hv⟩ := own_slice hL.1
    by_cases hlt : j < m
    · obtain ⟨kd, hkd, hcell, hpos, hlen, hC⟩ := leaves_round ih.out hdep.out hm.out hrow.out hks.out hfed.out hcnt.out hlt hL
      have HL := Lib.hid hL; have HC := Lib.hid hC; have HKD := Lib.hid hkd
      clear hL hC hkd
      generalize kd.val = kv at *
      have HL2 := Lib.hid (hv ▸ HL.out)
      clear HL
      subst hv
      go_wp2_with fail
      refine HC.out.mono ?_
      rintro e w2 ⟨v2, rfl, o2, hb2⟩
      obtain ⟨g2, cap2, rfl, _, _⟩ := o2.form hpos
      have hown : w2.ownsRow w.heap.size 95 1 (.slice va (lvsL (ks.take j)).length vc) (lvsL (ks.take j)).length ((lvsL (ks.take j)).map ptrOf) := ownsRow_upd HL2.out.1 (Upd.of_below (fun _ => False) hb2) (by simp)
      have hsz := HL2.out.2.size
      have hsz2 := hb2.size
      have HOWN := Lib.hid hown; have HO2 := Lib.hid o2; have HB2 := Lib.hid hb2
      clear hown o2 hb2
      go_wp2_with (at_builtin; go_must (refine wpList_append_lies _ rfl (.tmp 26) (.tmp 28) 121 rfl w.heap.size 95 i0 _ 1 8 Try.underlying121 Hi.out Hz0.out Hz1.out Hz2.out rfl (by decide) (.slice va (lvsL (ks.take j)).length vc) _ _ rfl HOWN.out ⟨g2, 0, none⟩ kd.lvs.length cap2 (kd.lvs.map ptrOf) rfl (by simp) (HO2.out.cells rfl) (by intro u hu; obtain ⟨b', _, rfl⟩ := List.mem_map.1 hu; rfl) hpos (by unfold maxLen; omega) (by omega) (by omega) w2.heap.size rfl ?_); intro g3 cap3 w3 hown3 hgrow3 hat3 hlt3; have Hown3 := Lib.hid hown3; have Hgrow3 := Lib.hid hgrow3; clear hown3 hgrow3)
      refine ⟨⟨j + 1, hlt, num_succ j, ?_, ?_⟩, meas_lt hlt⟩
      · rw [take_snoc' HKD.out, lvsL_append]
        simpa [lvsL] using Hown3.out
      · exact (HL2.out.2.trans (HB2.out.mono hsz)).grown Hgrow3.out (by omega) (fun q hq => (World.ownsRow.lt HOWN.out q hq).1)
    · have HL := Lib.hid hL; clear hL
      go_wp2_with fail
      go_ret
      have := HL.out
      unfold LeavesLoop at this
      rw [List.take_of_length_le (by have := hm.out; omega)] at this
      exact ⟨_, rfl, this.1, this.2⟩

theorem leaves_any (n : Nat) : LeavesSaid n := by
  induction n with
  | zero =>
    intro a r w hd
    cases r
    simp [R.depth] at hd
  | succ n ih =>
    intro a r w hdep hr hf hc
    cases a with
    | leaf b => exact leaves_leaf b w
    | split b a off cap ks =>
      cases r with
      | mk k W H id kids =>
        simp only [Rep] at hr
        obtain ⟨_, _, ⟨x, y, hb⟩, hrow, hks⟩ := hr
        simp only [R.depth] at hdep
        simp only [R.Fed] at hf
        simp only [R.cnt] at hc
        have hl := ((Reps_iff w ks kids).1 hks).1
        have := cntL_length kids
        exact leaves_split n ih b a off cap ks.length ks kids w (Nat.le_of_succ_le_succ hdep) rfl (by omega) (blk_cell hb 5) hrow hks hf.2 hc

end Go.Proofs.Ytpehceccnjdfeaa
