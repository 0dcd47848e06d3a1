/- put. -/
import Derived.Test.YtpehceccnjdfeaaD1
import Derived.Deep.RegionWith
namespace Go.Proofs.Ytpehceccnjdfeaa
open Go.RowKit

theorem put_root (t c : A) (a : Option Addr) (n cp : Nat) (w : World) (h : n < 2) : Calls Try.prog 76 #[t.val, .slice a n cp, c.val] w fun e w' => e = .returned c.val ∧ w = w' := by
  have hp := parent_one a n cp w h
  have HP := Lib.hid hp; clear hp
  generalize t.val = tv at *
  generalize c.val = cv at *
  go_enter Try.func76, Try.ntmps76
  go_wp2_with fail
  refine HP.out.mono ?_
  rintro e w' ⟨rfl, rfl⟩
  go_wp2_with fail
  go_ret
  exact ⟨rfl, rfl⟩

set_option maxRecDepth 100000 in
set_option maxHeartbeats 1000000 in
theorem put_up (t c : A) (g n cp b a off m cap j : Nat) (ks : List A) (kd : A) (w : World) (h : 2 ≤ n) (hc : n ≤ cp) (hc2 : cp ≤ maxLen) (hm : m ≤ 100000)
    (c1 : w.cell? ⟨g, n - 2, none⟩ = some (.iface 102 (.pointer (some ⟨b, 0, none⟩)))) (c2 : Hid (w.cell? ⟨g, n - 1, none⟩ = some kd.val)) (c3 : w.cell? ⟨b, 5, none⟩ = some (.slice (some ⟨a, off, none⟩) m cap))
    (hn : Hid (m = ks.length)) (hr : Hid (Row w a off cap (ks.map A.val))) (hat : Hid (∀ k ∈ ks, CellAt w k)) (hj : Hid (ks[j]? = some kd)) (hne : Hid (∀ (i : Nat) (k : A), i < j → ks[i]? = some k → k.blk ≠ kd.blk)) :
    Calls Try.prog 76 #[t.val, .slice (some ⟨g, 0, none⟩) n cp, c.val] w fun e w' => e = .returned t.val ∧ ∃ q, w' = (w.drewN q).setCell ⟨a, off + j, none⟩ c.val := by
  have hp := parent_up g n cp b w h hc hc2 c1
  have HP := Lib.hid hp; clear hp
  have hI : Hid (∀ W : World, W.heap = w.heap → Calls Try.prog 73 #[.slice (some ⟨a, off, none⟩) m cap, kd.val] W fun e w' => e = .returned (.int .i64 j) ∧ W = w') := by
    intro W hW
    refine index73 a off m cap j ks kd W hn hm ?_ ?_ hj hne
    · exact hr.out.congr (by rw [hW])
    · intro k hk
      obtain ⟨cs, hcs⟩ := hat.out k hk
      exact ⟨cs, by rw [hW]; exact hcs⟩
  have hjm : j < m := by have := (List.getElem?_eq_some_iff.1 hj.out).1; have := hn.out; omega
  have c4 : (w.cell? ⟨a, off + j, none⟩) = some kd.val := hr.out.cell (by simp [hj.out])
  have f4 : w.frozen? ⟨a, off + j, none⟩ = false := by
    obtain ⟨cs, h1, _⟩ := hr.out
    exact blk_free h1 _
  have c5 := c2.out
  obtain ⟨tk, hk, _⟩ := val_parts kd
  obtain ⟨tt, ht, _⟩ := val_parts t
  obtain ⟨tc, hcv, _⟩ := val_parts c
  rw [hk] at hI c4 c5
  rw [ht, hcv]
  have z1 : ((n : Int) - 1).toNat = n - 1 := by omega
  unfold maxLen at hc2
  have z2 : (0 : Int) ≤ (n : Int) - 1 := by omega
  have z4 : IntKind.i64.wrap ((n : Int) - 1) = (n : Int) - 1 := by rw [IntKind.wrap_i64]; omega
  have z3 : (n : Int) - 1 < (n : Int) := by omega
  clear hk ht hcv
  go_enter Try.func76, Try.ntmps76
  go_wp2_with fail
  refine HP.out.mono ?_
  rintro e w' ⟨rfl, rfl⟩
  go_wp2_with fail
  go_region_with (go_at_call 73; refine (hI.out _ ?_).mono ?_; rfl; rintro e w' ⟨rfl, rfl⟩)
  all_goals
    go_wp2_with fail
    go_ret
    exact ⟨rfl, _, rfl⟩

end Go.Proofs.Ytpehceccnjdfeaa
