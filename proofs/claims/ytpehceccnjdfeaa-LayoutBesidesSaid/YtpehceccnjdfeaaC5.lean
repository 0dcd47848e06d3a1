/- path: the way to a pane. -/
import Derived.Test.YtpehceccnjdfeaaC4
namespace Go.Proofs.Ytpehceccnjdfeaa
open Go.RowKit

mutual
/-- The place of the first pane with that id. -/
def R.find (p : Int) : R → Option (List Nat)
  | .mk k _ _ i kids => if k = 1 then if i = p then some [] else none else findL p 0 kids
def findL (p : Int) (n : Nat) : List R → Option (List Nat)
  | [] => none
  | r :: rs => match r.find p with
    | some q => some (n :: q)
    | none => findL p (n + 1) rs
end

/-- The cells from the root to a place. -/
def A.way : A → List Nat → List A
  | a, [] => [a]
  | .split b a off cap ks, i :: q => .split b a off cap ks :: (match ks[i]? with | some k => k.way q | none => [])
  | .leaf b, _ :: _ => [.leaf b]
termination_by _ q => q.length

theorem way_nil (a : A) : a.way [] = [a] := by cases a <;> simp [A.way]
theorem way_pos (a : A) (q : List Nat) : 0 < (a.way q).length := by cases a <;> cases q <;> simp [A.way]

theorem findL_none (p : Int) : ∀ (l : List R) (n : Nat), findL p n l = none ↔ ∀ (i : Nat) (r : R), l[i]? = some r → r.find p = none
  | [], n => by simp [findL]
  | a :: l, n => by
    rw [findL]
    cases h : a.find p with
    | some q => simp only [reduceCtorEq, false_iff]; intro hh; have := hh 0 a rfl; rw [h] at this; cases this
    | none =>
      simp only [findL_none p l (n + 1)]
      constructor
      · intro hh i r hi
        cases i with
        | zero => simp at hi; subst hi; exact h
        | succ i => exact hh i r (by simpa using hi)
      · intro hh i r hi
        exact hh (i + 1) r (by simpa using hi)
theorem findL_at (p : Int) : ∀ (l : List R) (n j : Nat) (r : R) (q : List Nat), (∀ (i : Nat) (r : R), i < j → l[i]? = some r → r.find p = none) → l[j]? = some r → r.find p = some q → findL p n l = some ((n + j) :: q)
  | [], n, j, r, q, _, h, _ => by simp at h
  | a :: l, n, 0, r, q, _, h, hf => by
    simp at h; subst h
    simp [findL, hf]
  | a :: l, n, j + 1, r, q, h0, h, hf => by
    rw [findL, h0 0 a (by omega) rfl]
    simp only []
    rw [findL_at p l (n + 1) j r q (fun i s hi hs => h0 (i + 1) s (by omega) (by simpa using hs)) (by simpa using h) hf]
    congr 2; omega

theorem cnt_mem {r : R} : ∀ {l : List R}, r ∈ l → r.cnt ≤ cntL l
  | [], h => by cases h
  | a :: l, h => by
    simp only [cntL]
    rcases List.mem_cons.1 h with rfl | h
    · omega
    · have := cnt_mem h; omega

def PathPost (w : World) (a : A) (res : Option (List Nat)) (e : Ending) (w' : World) : Prop :=
  Below w.heap.size w w' ∧ match res with
  | none => e = .returned (.slice none 0 0)
  | some q => ∃ v, e = .returned v ∧ w'.ownsRow w.heap.size 90 1 v (a.way q).length ((a.way q).map A.val)

def PathSaid (n : Nat) : Prop := ∀ (a : A) (r : R) (p : Int) (w : World), r.depth ≤ n → Rep w a r → n ≤ 1000 → r.cnt ≤ 1000 → Calls Try.prog 68 #[a.val, .int .i64 p] w (PathPost w a (r.find p)) ∧ ∀ q, r.find p = some q → (a.way q).length ≤ n

open Go.Op in
theorem neq92n (w : World) : (binOp .neq 92 (.slice none 0 0) (.slice none 0 0)).run Try.prog w = .ok (.bool false) w := by kernel_rfl
open Go.Op in
theorem neq92s (a : Addr) (l c : Nat) (w : World) : (binOp .neq 92 (.slice (some a) l c) (.slice none 0 0)).run Try.prog w = .ok (.bool true) w := by kernel_rfl
open Go.Op in
theorem eql92n (w : World) : (binOp .eql 92 (.slice none 0 0) (.slice none 0 0)).run Try.prog w = .ok (.bool true) w := by kernel_rfl
open Go.Op in
theorem eql92s (a : Addr) (l c : Nat) (w : World) : (binOp .eql 92 (.slice (some a) l c) (.slice none 0 0)).run Try.prog w = .ok (.bool false) w := by kernel_rfl

set_option maxRecDepth 100000 in
theorem path_leaf (b : Nat) (id p : Int) (w : World) (res : Option (List Nat)) (hres : Hid (res = if id = p then some [] else none)) (hc : w.cell? ⟨b, 4, none⟩ = some (.int .i64 id)) : Calls Try.prog 68 #[.iface 95 (.pointer (some ⟨b, 0, none⟩)), .int .i64 p] w fun e w' => PathPost w (.leaf b) res e w' := by
  have t1 := ta_leaf_leaf
  go_enter Try.func68, Try.ntmps68
  go_wp2_with fail
  · have he : id = p := by simpa using ‹(id == p) = true›
    go_ret
    rw [hres.out, if_pos he]
    refine ⟨(Below.refl _ _).alloc (Nat.le_refl _) _, _, rfl, ?_⟩
    rw [way_nil]
    exact World.ownsRow_lit (base := w.heap.size) (e := 90) (size := 1) w #[.iface 95 (.pointer (some ⟨b, 0, none⟩))] 1 (Nat.le_refl _) (by unfold maxLen; omega) (by rfl)
  · have he : ¬ id = p := by simpa using ‹(id == p) = false›
    go_ret
    rw [hres.out, if_neg he]
    exact ⟨Below.refl _ _, rfl⟩

def PathLoop (w : World) (p : Int) (kids : List R) (j : Nat) (wr : World) : Prop :=
  (∀ (i : Nat) (r : R), i < j → kids[i]? = some r → r.find p = none) ∧ Below w.heap.size w wr

set_option maxRecDepth 100000 in
set_option maxHeartbeats 1000000 in
theorem path_split (n : Nat) (ih : Hid (PathSaid n)) (hn : n ≤ 999) (b a off cap m : Nat) (ks : List A) (kids : List R) (p : Int) (w : World) (hdep : Hid (depthL kids ≤ n)) (hm : Hid (m = ks.length)) (hm2 : m ≤ 100000)
    (hc : w.cell? ⟨b, 5, none⟩ = some (.slice (some ⟨a, off, none⟩) m cap)) (hrow : Hid (Row w a off cap (ks.map A.val))) (hks : Hid (Reps w ks kids)) (hcnt : Hid (cntL kids + 1 ≤ 1000)) :
    Calls Try.prog 68 #[.iface 102 (.pointer (some ⟨b, 0, none⟩)), .int .i64 p] w fun e w' => PathPost w (.split b a off cap ks) (findL p 0 kids) e w' := by
  have t1 := ta_split_leaf
  have t2 := ta_split_split
  have t3 := neq92n
  have t4 := neq92s
  obtain ⟨i0, hi0, hz0, hz1, hz2⟩ := info_parts info90
  have Hi := Lib.hid hi0; have Hz0 := Lib.hid hz0; have Hz1 := Lib.hid hz1; have Hz2 := Lib.hid hz2
  clear hi0 hz0 hz1 hz2
  go_enter Try.func68, Try.ntmps68
  go_wp2_with fail
  go_loopw [30] (fun i wr => ∃ j : Nat, j ≤ m ∧ i = .int .i64 j ∧ PathLoop w p kids j wr) (fun i _ => m - (intOf i).toNat)
  case atStart => exact ⟨0, Nat.zero_le _, rfl, fun i r hi => by omega, Below.refl _ _⟩
  case round =>
    obtain ⟨j, hj, rfl, hL⟩ := hrel
    by_cases hlt : j < m
    · obtain ⟨kd, hkd⟩ : ∃ kd, ks[j]? = some kd := ⟨ks[j]'(by rw [← hm.out]; exact hlt), by simp⟩
      have hI := (Reps_iff w ks kids).1 hks.out
      obtain ⟨r, hr⟩ : ∃ r, kids[j]? = some r := ⟨kids[j]'(by have := hm.out; omega), by simp⟩
      have hcell : wr.cell? ⟨a, off + j, none⟩ = some kd.val := by
        have hc : w.cell? ⟨a, off + j, none⟩ = some kd.val := hrow.out.cell (by simp [hkd])
        rw [← hc]
        exact hL.2.cell (World.block_lt_of_cell? w _ hc)
      obtain ⟨hC, hwl⟩ := ih.out kd r p wr (Nat.le_trans (depth_mem (List.mem_of_getElem? hr)) hdep.out) ((hI.2 j kd r hkd hr).below hL.2) (by omega) (by have := cnt_mem (List.mem_of_getElem? hr); have := hcnt.out; omega)
      have hsz := hL.2.size
      have HL := Lib.hid hL; have HC := Lib.hid hC; have HKD := Lib.hid hkd; have HR := Lib.hid hr
      clear hL hC hkd hr hI
      generalize kd.val = kv at *
      cases hfind : r.find p with
      | none =>
        rw [hfind] at HC
        have HF := Lib.hid hfind; clear hfind hwl
        go_wp2_with fail
        refine HC.out.mono ?_
        rintro e w2 ⟨hb2, rfl⟩
        have HB2 := Lib.hid hb2; clear hb2
        go_wp2_with fail
        refine ⟨⟨j + 1, hlt, num_succ j, fun i s hi hs => ?_, HL.out.2.trans (HB2.out.mono hsz)⟩, meas_lt hlt⟩
        rcases Nat.lt_or_ge i j with h | h
        · exact HL.out.1 i s h hs
        · obtain rfl : i = j := by omega
          rw [HR.out] at hs
          cases hs
          exact HF.out
      | some q =>
        rw [hfind] at HC
        have hwq := hwl q hfind
        have hp2 := way_pos kd q
        have HF := Lib.hid hfind; clear hfind hwl
        go_wp2_with fail
        refine HC.out.mono ?_
        rintro e w2 ⟨hb2, v2, rfl, o2⟩
        obtain ⟨g2, cap2, rfl, hg2, hg3⟩ := o2.form hp2
        have hsz2 := hb2.size
        have HO2 := Lib.hid o2; have HB2 := Lib.hid hb2
        clear o2 hb2
        have hl0 : (w2.alloc (.cells #[.iface 102 (.pointer (some ⟨b, 0, none⟩))] 90)).ownsRow w.heap.size 90 1 (.slice (some ⟨w2.heap.size, 0, none⟩) 1 1) 1 [.iface 102 (.pointer (some ⟨b, 0, none⟩))] :=
          World.ownsRow_lit (base := w.heap.size) (e := 90) (size := 1) w2 #[.iface 102 (.pointer (some ⟨b, 0, none⟩))] 1 (by omega) (by unfold maxLen; omega) (by rfl)
        have HL0 := Lib.hid hl0; clear hl0
        go_wp2_with (at_builtin; go_must (refine wpList_append_lies _ rfl (.tmp 40) (.tmp 41) 92 rfl w.heap.size 90 i0 _ 1 16 Try.underlying92 Hi.out Hz0.out Hz1.out Hz2.out rfl (by decide) (.slice (some ⟨w2.heap.size, 0, none⟩) 1 1) _ _ rfl HL0.out ⟨g2, 0, none⟩ (kd.way q).length cap2 ((kd.way q).map A.val) rfl (by simp) ((HO2.out.alloc _).cells rfl) (by intro u hu; obtain ⟨b', _, rfl⟩ := List.mem_map.1 hu; rfl) hp2 (by unfold maxLen; omega) (by omega) (by simp; omega) (w2.heap.size + 1) (by simp) ?_); intro g3 cap3 w3 hown3 hgrow3 hat3 hlt3; have Hown3 := Lib.hid hown3; have Hgrow3 := Lib.hid hgrow3; clear hown3 hgrow3)
        go_ret
        rw [findL_at p kids 0 j r q HL.out.1 HR.out HF.out]
        refine ⟨((HL.out.2.trans (HB2.out.mono hsz)).alloc (by omega) _).grown Hgrow3.out (by simp; omega) (fun q hq => by simp only [Value.ownBlock, Option.some.injEq] at hq; omega), _, rfl, ?_⟩
        simp only [Nat.zero_add, A.way, HKD.out]
        simpa [A.val, A.ty, A.ptr, A.blk, Nat.add_comm] using Hown3.out
    · have HL := Lib.hid hL; clear hL
      go_wp2_with fail
      go_ret
      have hlen := ((Reps_iff w ks kids).1 hks.out).1
      rw [(findL_none p kids 0).2 fun i r hi => HL.out.1 i r (by have := (List.getElem?_eq_some_iff.1 hi).1; have := hm.out; omega) hi]
      exact ⟨HL.out.2, rfl⟩

theorem findL_len {P : R → List Nat → Prop} (p : Int) : ∀ (l : List R) (n : Nat) (q : List Nat), findL p n l = some q → ∃ j r q', q = (n + j) :: q' ∧ l[j]? = some r ∧ r.find p = some q'
  | [], n, q, h => by simp [findL] at h
  | a :: l, n, q, h => by
    rw [findL] at h
    cases ha : a.find p with
    | some q' =>
      rw [ha] at h
      simp only [Option.some.injEq] at h
      exact ⟨0, a, q', by rw [← h]; rfl, rfl, ha⟩
    | none =>
      rw [ha] at h
      obtain ⟨j, r, q', rfl, h2, h3⟩ := findL_len (P := P) p l (n + 1) q h
      exact ⟨j + 1, r, q', by congr 1; omega, by simpa using h2, h3⟩

theorem path_any (n : Nat) : PathSaid n := by
  induction n with
  | zero =>
    intro a r p w hd
    cases r
    simp [R.depth] at hd
  | succ n ih =>
    intro a r p w hdep hr hn hcnt
    cases a with
    | leaf b =>
      cases r with
      | mk k W H id kids =>
        simp only [Rep] at hr
        obtain ⟨rfl, rfl, x, y, hb⟩ := hr
        have h1 : (R.mk 1 W H id []).find p = if id = p then some [] else none := by simp [R.find]
        rw [h1]
        refine ⟨path_leaf b id p w _ rfl (blk_cell hb 4), fun q hq => ?_⟩
        split at hq
        · cases hq; simp [A.way]
        · cases hq
    | split b a off cap ks =>
      cases r with
      | mk k W H id kids =>
        simp only [Rep] at hr
        obtain ⟨_, hk, ⟨x, y, hb⟩, hrow, hks⟩ := hr
        simp only [R.depth] at hdep
        have h1 : (R.mk k W H id kids).find p = findL p 0 kids := by rw [R.find, if_neg (by omega)]
        rw [h1]
        have hI := (Reps_iff w ks kids).1 hks
        simp only [R.cnt] at hcnt
        have := cntL_length kids
        refine ⟨path_split n ih (by omega) b a off cap ks.length ks kids p w (Nat.le_of_succ_le_succ hdep) rfl (by omega) (blk_cell hb 5) hrow hks hcnt, fun q hq => ?_⟩
        obtain ⟨j, r, q', rfl, h2, h3⟩ := findL_len (P := fun _ _ => True) p kids 0 q hq
        obtain ⟨kd, hkd⟩ : ∃ kd, ks[j]? = some kd := ⟨ks[j]'(by rw [hI.1]; exact (List.getElem?_eq_some_iff.1 h2).1), by simp⟩
        have := cnt_mem (List.mem_of_getElem? h2)
        have := (ih kd r p w (Nat.le_trans (depth_mem (List.mem_of_getElem? h2)) (Nat.le_of_succ_le_succ hdep)) (hI.2 j kd r hkd h2) (by omega) (by omega)).2 q' h3
        simp only [Nat.zero_add, A.way, hkd, List.length_cons]
        omega

end Go.Proofs.Ytpehceccnjdfeaa
