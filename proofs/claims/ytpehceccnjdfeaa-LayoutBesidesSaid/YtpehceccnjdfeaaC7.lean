/- slices.Replace of one cell by some. -/
import Derived.Test.YtpehceccnjdfeaaC6
import Derived.Shelf.Spec.SlicesInsertGrow
namespace Go.Proofs.Ytpehceccnjdfeaa
open Go.RowKit Go.Lib

theorem size90 : (Try.prog.info? 90).map (·.size) = some 1 := by kernel_rfl

structure repl_fin (w : World) (a off c n m i : Nat) (xs vs : List Value) (nq : Nat) : Prop where
  row : Row w a off c xs
  hn : xs.length = n
  hm : vs.length = m
  hi : i + 1 < n
  m2 : 2 ≤ m
  hc : n + m ≤ c + 1
theorem repl_fin.done {w : World} {a off c n m i : Nat} {xs vs : List Value} {nq : Nat} (h : repl_fin w a off c n m i xs vs nq) :
    ReplPost w a n m i xs vs (.returned (.slice (some ⟨a, off, none⟩) (i + m + (n - (i + 1))) c)) (((w.drewN (nq + 1)).setCells a (off + (i + m)) (xs.drop (i + 1))).setCells a (off + i) vs) := by
  have h1 := h.hi; have h2 := h.m2; have h3 := h.hc
  obtain ⟨q1, q2⟩ := repl_in (w1 := w.drewN (nq + 1)) (w2 := w.drewN (nq + 1)) h.row h.hn h.hm (show i < n by omega) (by omega) rfl rfl ((Upd.refl _ w).drewN _) ⟨rfl, rfl, rfl⟩ rfl
  exact ⟨a, off, c, by rw [show i + m + (n - (i + 1)) = n + m - 1 by omega], q1, .inl rfl, q2⟩

set_option maxHeartbeats 4000000 in
set_option maxRecDepth 100000 in
theorem repl_shift (a off n c i vb voff m vc : Nat) (xs vs : List Value) (w : World) (hi : i + 1 < n) (hm : 2 ≤ m) (hroom : n + m ≤ c + 1) (hbig : (n + m) * 16 ≤ 140737488355328) (hvb : vb ≠ a)
    (hr : Hid (Row w a off c xs)) (hn : Hid (xs.length = n)) (hvl : Hid (vs.length = m)) (h1c : Hid (∀ v ∈ xs, v.oneCell' = true)) (h1v : Hid (∀ v ∈ vs, v.oneCell' = true))
    (hvs : Hid (∀ j v, vs[j]? = some v → w.cell? ⟨vb, voff + j, none⟩ = some v)) (hov : Hid (∀ o lb cb w1, w1.heap = w.heap → (callFunc 120 #[.slice (some ⟨a, o, none⟩) lb cb, .slice (some ⟨vb, voff, none⟩) m vc]).run Try.prog w1 = .ok (.value (.bool false)) w1)) :
    Calls Try.prog 74 #[.slice (some ⟨a, off, none⟩) n c, .int .i64 i, .int .i64 ((i : Int) + 1), .slice (some ⟨vb, voff, none⟩) m vc] w fun e w' => ReplPost w a n m i xs vs e w' := by
  have t92 := Try.underlying92
  have hb1 : (0 : Int) ≤ (i : Int) + 1 := by omega
  have hb2 : (i : Int) + 1 ≤ (c : Int) := by omega
  have hb3 : ((i : Int) + 1 == (n : Int)) = false := by simp; omega
  have hb4 : ((i : Int) == (i : Int) + 1) = false := by simp; omega
  obtain ⟨cs, c1, c2, c3, c4⟩ := hr.out.open
  have hdl : (xs.drop (i + 1)).length = n - (i + 1) := by rw [List.length_drop, hn.out]
  have hcp1 : ∀ (W : World), W.heap = w.heap → ∀ ty dc sc, (Builtin.copy_ #[92, 92] ty #[.slice (some ⟨a, off + (i + m), none⟩) (n - (i + 1)) dc, .slice (some ⟨a, off + (i + 1), none⟩) (n - (i + 1)) sc]).run Try.prog W = .ok (goInt (xs.drop (i + 1)).length) (W.setCells a (off + (i + m)) (xs.drop (i + 1))) := fun W hW ty dc sc =>
    run_copy_cells W _ _ ty 90 a (off + (i + m)) (n - (i + 1)) dc ⟨a, off + (i + 1), none⟩ (n - (i + 1)) sc (xs.drop (i + 1)) t92 size90 (by rw [hdl]; simp only [Nat.min_def]; split <;> omega)
      (fun j v hj => by
        rw [Addr.add_lit, blk_cell (by rw [hW]; exact c1), Nat.add_assoc]
        exact c4 (i + 1 + j) v (by rwa [List.getElem?_drop] at hj))
      (fun j hj => by rw [blk_cell (by rw [hW]; exact c1), Array.getElem?_eq_getElem (by omega)]; rfl) (fun j hj => blk_free (by rw [hW]; exact c1) _) (fun v hv => h1c.out v (List.mem_of_mem_drop hv))
  have hcp2 : ∀ (W W1 : World), W.heap = w.heap → W1.heap = (W.setCells a (off + (i + m)) (xs.drop (i + 1))).heap → ∀ ty dl dc, m ≤ dl → (Builtin.copy_ #[92, 92] ty #[.slice (some ⟨a, off + i, none⟩) dl dc, .slice (some ⟨vb, voff, none⟩) m vc]).run Try.prog W1 = .ok (goInt vs.length) (W1.setCells a (off + i) vs) := fun W W1 hW hW1 ty dl dc hdl2 => by
    obtain ⟨d, d1, d2, d3, d4⟩ := blk_sets (xs.drop (i + 1)) (off + (i + m)) W cs (by rw [hW]; exact c1) (by omega)
    rw [← hW1] at d1
    refine run_copy_cells W1 _ _ ty 90 a (off + i) dl dc ⟨vb, voff, none⟩ m vc vs t92 size90 (by rw [hvl.out]; simp only [Nat.min_def]; split <;> omega)
      (fun j v hj => ?_) (fun j hj => by rw [blk_cell d1, Array.getElem?_eq_getElem (by have := hvl.out; omega)]; rfl) (fun j hj => blk_free d1 _) h1v.out
    rw [Addr.add_lit, World.cell?_of_block (w' := W1) (w := W.setCells a (off + (i + m)) (xs.drop (i + 1))) (by rw [hW1]), World.cell?_setCells_out a _ _ _ _ (fun h _ => absurd h hvb), World.cell?_of_block (w := w) (by rw [hW])]
    exact hvs.out j v hj
  have HCP1 := Lib.hid hcp1; have HCP2 := Lib.hid hcp2
  clear hcp1 hcp2 c1 c2 c3 c4 hdl
  go_enter Try.func74, Try.ntmps74
  go_wp2_with fail
  go_quiet (fail)
  have hov2 := fun o lb cb => hov.out o lb cb (w.drewN nq) rfl
  go_wp2_with (simp only [hov2])
  clear hov2
  have hw1 : IntKind.i64.wrap ((i : Int) + (m : Int)) = (i : Int) + (m : Int) := by rw [IntKind.wrap_i64]; omega
  have hw2 : (0 : Int) ≤ (i : Int) + (m : Int) := by omega
  have hw3 : (i : Int) + (m : Int) ≤ (i : Int) + (m : Int) + ((n - (i + 1) : Nat) : Int) := by omega
  have hw4 : ((i : Int) + (m : Int)).toNat = i + m := by omega
  have hw5 : ¬ (c = i + m) := by omega
  have hw6 : i + m + (n - (i + 1)) - (i + m) = n - (i + 1) := by omega
  have hw7 : ¬ (c = i + 1) := by omega
  have hw8 : ((i : Int) + 1).toNat = i + 1 := by omega
  have hw9 : (i : Int) + 1 ≤ (n : Int) := by omega
  go_region_law (refine step_copy_runI rfl _ _ 92 92 rfl (.slice (some ⟨a, off + (i + m), none⟩) (n - (i + 1)) (c - (i + m))) (.slice (some ⟨a, off + (i + 1), none⟩) (n - (i + 1)) (c - (i + 1))) (by simp [Act.eval, Act.put]) (by simp [Act.eval, Act.put]) (HCP1.out (w.drewN nq).drew rfl _ _ _) ?_)
  all_goals
    have hcp3 := HCP2.out (w.drewN (nq + 1)) ((w.drewN (nq + 1)).setCells a (off + (i + m)) (xs.drop (i + 1))) rfl rfl
    have hin : repl_fin w a off c n m i xs vs nq := ⟨hr.out, hn.out, hvl.out, hi, hm, hroom⟩
    have HIN := Lib.hid hin; clear hin
    generalize hW3 : ((w.drewN (nq + 1)).setCells a (off + (i + m)) (xs.drop (i + 1))) = W3 at *
    have HW3 := Lib.hid hW3; clear hW3
    have hml : m ≤ i + m + (n - (i + 1)) - i := by omega
    have HCP3 := Lib.hid hcp3; clear hcp3 HCP1 HCP2
    go_wp2_with (refine wpList_copy_runI _ rfl (.tmp 133) (.tmp 134) 92 92 rfl (.slice (some ⟨a, off + i, none⟩) (i + m + (n - (i + 1)) - i) (c - i)) (.slice (some ⟨vb, voff, none⟩) m vc) rfl rfl (HCP3.out 3 (i + m + (n - (i + 1)) - i) (c - i) hml) ?_)
    go_ret
    rw [← HW3.out]
    exact HIN.out.done

end Go.Proofs.Ytpehceccnjdfeaa
