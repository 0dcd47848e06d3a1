/- slices.Equal of two lists of cells. -/
import Derived.Test.YtpehceccnjdfeaaA2
namespace Go.Proofs.Ytpehceccnjdfeaa
open Go.RowKit

attribute [local go_sem high] eq53
set_option maxRecDepth 100000 in
theorem equal_pos (b1 o1 c1 b2 o2 c2 n : Nat) (l1 l2 : List Cl) (w : World) (hl1 : Hid (l1.length = n)) (hl2 : Hid (l2.length = n)) (hn : n ≤ 4000000000000)
    (h1 : Hid (∀ (i : Nat) (c : Cl), l1[i]? = some c → ∀ j, j < 7 → w.cell? ⟨b1, o1 + i * 7 + j, none⟩ = c.vals[j]?))
    (h2 : Hid (∀ (i : Nat) (c : Cl), l2[i]? = some c → ∀ j, j < 7 → w.cell? ⟨b2, o2 + i * 7 + j, none⟩ = c.vals[j]?)) :
    Calls Try.prog 117 #[.slice (some ⟨b1, o1, none⟩) n c1, .slice (some ⟨b2, o2, none⟩) n c2] w fun e w' => e = .returned (.bool (decide (l1 = l2))) ∧ ∃ m, w' = w.drewN m := by
  go_enter Try.func117, Try.ntmps117
  go_wp2_with fail
  go_loopw [13] (fun i wr => ∃ j : Nat, j ≤ n ∧ i = .int .i64 j ∧ Hid (l1.take j = l2.take j) ∧ Hid (∃ q, wr = w.drewN q)) (fun i _ => n - (intOf i).toNat)
  case atStart => exact ⟨0, Nat.zero_le _, rfl, rfl, 0, rfl⟩
  case round =>
    obtain ⟨j, hj, rfl, ht, hq⟩ := hrel
    obtain ⟨q, rfl⟩ := hq.out
    by_cases hlt : j < n
    · obtain ⟨a, ha⟩ : ∃ a, l1[j]? = some a := ⟨l1[j]'(by rw [hl1.out]; exact hlt), by simp⟩
      obtain ⟨c, hc⟩ : ∃ a, l2[j]? = some a := ⟨l2[j]'(by rw [hl2.out]; exact hlt), by simp⟩
      have g := h1.out j a ha
      have a0 := g 0 (by omega); have a1 := g 1 (by omega); have a2 := g 2 (by omega); have a3 := g 3 (by omega); have a4 := g 4 (by omega); have a5 := g 5 (by omega); have a6 := g 6 (by omega)
      clear g
      have g := h2.out j c hc
      have e0 := g 0 (by omega); have e1 := g 1 (by omega); have e2 := g 2 (by omega); have e3 := g 3 (by omega); have e4 := g 4 (by omega); have e5 := g 5 (by omega); have e6 := g 6 (by omega)
      clear g
      simp only [Cl.vals, List.getElem?_cons_zero, List.getElem?_cons_succ, Nat.add_zero] at a0 a1 a2 a3 a4 a5 a6 e0 e1 e2 e3 e4 e5 e6
      have HA := Lib.hid ha; have HC := Lib.hid hc; clear ha hc
      go_wp2_with fail
      go_quiet (fail)
      go_wp2_with fail
      · have hne : a ≠ c := ceq_false (by simpa using ‹(!ceq _ _) = true›)
        go_ret
        refine ⟨?_, _, World.drewN_drewN _ _ _⟩
        have : l1 ≠ l2 := by rintro rfl; exact hne (Option.some.inj (HA.out.symm.trans HC.out))
        simp [this]
      · have he : a = c := ceq_true (by simpa using ‹(!ceq _ _) = false›)
        refine ⟨⟨j + 1, hlt, num_succ j, ?_, ⟨_, rfl⟩⟩, meas_lt hlt⟩
        show _ = _
        rw [take_snoc' HA.out, take_snoc' HC.out, ht.out, he]
    · go_wp2_with fail
      go_ret
      have e : l1 = l2 := by have := ht.out; rwa [List.take_of_length_le (by have := hl1.out; omega), List.take_of_length_le (by have := hl2.out; omega)] at this
      exact ⟨by simp [e], q, rfl⟩

theorem equal_ne (a1 a2 : Option Addr) (c1 c2 n m : Nat) (w : World) (h : n ≠ m) :
    Calls Try.prog 117 #[.slice a1 n c1, .slice a2 m c2] w fun e w' => e = .returned (.bool false) ∧ w = w' := by
  have h1 : ((n : Int) == (m : Int)) = false := by simpa using (show ¬ (n : Int) = (m : Int) by omega)
  go_enter Try.func117, Try.ntmps117
  go_wp2_with fail
  go_ret
  exact ⟨rfl, rfl⟩

theorem equal_zero (a1 a2 : Option Addr) (c1 c2 : Nat) (w : World) :
    Calls Try.prog 117 #[.slice a1 0 c1, .slice a2 0 c2] w fun e w' => e = .returned (.bool true) ∧ w = w' := by
  go_enter Try.func117, Try.ntmps117
  go_wp2_with fail
  go_loop [13] (fun i => i = .int .i64 0) (fun _ => 0)
  case atStart => rfl
  case round =>
    subst hrel
    go_wp2_with fail
    go_ret
    exact ⟨rfl, rfl⟩

theorem equal_any (v1 v2 : Value) (l1 l2 : List Cl) (w : World) (h1 : Reads w v1 l1) (h2 : Reads w v2 l2) :
    Calls Try.prog 117 #[v1, v2] w fun e w' => e = .returned (.bool (decide (l1 = l2))) ∧ ∃ m, w' = w.drewN m := by
  obtain ⟨a1, c1, rfl, p1, q1, r1⟩ := h1
  obtain ⟨a2, c2, rfl, p2, q2, r2⟩ := h2
  by_cases hl : l1.length = l2.length
  · by_cases h0 : l1.length = 0
    · have e1 : l1 = [] := List.eq_nil_of_length_eq_zero h0
      have e2 : l2 = [] := List.eq_nil_of_length_eq_zero (by omega)
      subst e1 e2
      exact (equal_zero a1 a2 c1 c2 w).mono fun e w' h => ⟨by simpa using h.1, 0, h.2.symm⟩
    · obtain ⟨b1, o1, rfl, f1⟩ := r1 (by omega)
      obtain ⟨b2, o2, rfl, f2⟩ := r2 (by omega)
      rw [hl]
      exact equal_pos b1 o1 c1 b2 o2 c2 l2.length l1 l2 w hl rfl (by have := q2.2; omega) f1 f2
  · exact (equal_ne a1 a2 c1 c2 l1.length l2.length w hl).mono fun e w' h => ⟨by
      rw [h.1, show decide (l1 = l2) = false from decide_eq_false (by rintro rfl; exact hl rfl)], 0, h.2.symm⟩

end Go.Proofs.Ytpehceccnjdfeaa
