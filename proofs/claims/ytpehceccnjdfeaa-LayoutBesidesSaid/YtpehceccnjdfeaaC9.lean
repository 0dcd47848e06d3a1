/- slices.Replace of a cell that is not the last one by some, where there is no room. -/
import Derived.Test.YtpehceccnjdfeaaC8
namespace Go.Proofs.Ytpehceccnjdfeaa
open Go.RowKit Go.Lib

/-- The row behind both copies. -/
theorem repl_new {w W1 : World} {a off c n m i G T H : Nat} {xs vs : List Value} {ROW : Array Value} (hr : Row w a off c xs) (hn : xs.length = n) (hm : vs.length = m) (hi : i + 1 < n) (hT : T + 1 = n + m) (hG : T ≤ G) (hH : H = w.heap.size)
    (h1 : W1.heap[H]? = some (.cells ROW 90 (0, 0))) (h2 : ROW.size = G) (h3 : ∀ j, j < i → ROW[j]? = xs[j]?) (h4 : Upd (fun _ => False) w W1) :
    ReplPost w a n m i xs vs (.returned (.slice (some ⟨H, 0, none⟩) T G)) (((W1.setCells H i vs).drew).setCells H (i + m) (xs.drop (i + 1))) := by
  have hd : (xs.drop (i + 1)).length = n - (i + 1) := by simp [hn]
  obtain ⟨d, d1, d2, d3, d4⟩ := blk_sets vs i W1 ROW h1 (by omega)
  obtain ⟨e, e1, e2, e3, e4⟩ := blk_sets (xs.drop (i + 1)) (i + m) (W1.setCells H i vs).drew d d1 (by omega)
  have hu : Upd (fun k => k = a) w W1 := h4.mono fun _ _ h => h.elim
  refine ⟨H, 0, G, by rw [show n + m - 1 = T by omega], Row.of e1 (by omega) (by rw [mid_len hn hm (show i < n by omega)]; omega) (fun j v hv => ?_), .inr (by omega), upd_sets (S := fun k => k = a) H (fun h => by omega) _ _ _ ((upd_sets (S := fun k => k = a) H (fun h => by omega) _ _ _ hu).drew)⟩
  rw [Nat.zero_add]
  rcases mid_at hn hm (show i < n by omega) hv with ⟨q1, q2⟩ | ⟨k, q1, rfl, q2⟩ | ⟨k, rfl, q2⟩
  · rw [e4 _ (by omega), d4 _ (by omega), h3 j q1]; exact q2
  · rw [e4 _ (by omega)]
    exact d3 k v q2
  · exact e3 k v q2

set_option maxHeartbeats 4000000 in
set_option maxRecDepth 100000 in
theorem repl_grow (a off n c i vb voff m vc : Nat) (xs vs : List Value) (w : World) (hi : i + 1 < n) (hm : 2 ≤ m) (hnc : n ≤ c) (hroom : c + 1 < n + m) (hbig : (n + m) * 16 ≤ 140737488355328) (hvb : vb < w.heap.size)
    (hr : Hid (Row w a off c xs)) (hn : Hid (xs.length = n)) (hvl : Hid (vs.length = m)) (h1c : Hid (∀ v ∈ xs, v.oneCell' = true)) (h1v : Hid (∀ v ∈ vs, v.oneCell' = true))
    (hvs : Hid (∀ j v, vs[j]? = some v → w.cell? ⟨vb, voff + j, none⟩ = some v)) :
    Calls Try.prog 74 #[.slice (some ⟨a, off, none⟩) n c, .int .i64 i, .int .i64 ((i : Int) + 1), .slice (some ⟨vb, voff, none⟩) m vc] w fun e w' => ReplPost w a n m i xs vs e w' := by
  have t92 := Try.underlying92
  have hb1 : (0 : Int) ≤ (i : Int) + 1 := by omega
  have hb2 : (i : Int) + 1 ≤ (c : Int) := by omega
  have hb3 : ((i : Int) + 1 == (n : Int)) = false := by simp; omega
  have hb4 : ((i : Int) == (i : Int) + 1) = false := by simp; omega
  go_enter Try.func74, Try.ntmps74
  go_wp2_with fail
  go_quiet (fail)
  have hW0h : (w.drewN nq).heap = w.heap := rfl
  have hW0u : Upd (fun _ => False) w (w.drewN nq) := (Upd.refl _ w).drewN _
  generalize w.drewN nq = W0 at *
  obtain ⟨T, hT⟩ : ∃ T, T + 1 = n + m := ⟨n + m - 1, by omega⟩
  obtain ⟨H, hH⟩ : ∃ H, H = w.heap.size := ⟨_, rfl⟩
  obtain ⟨cs, c1, c2, c3, c4⟩ := hr.out.open
  have haH : a < w.heap.size := blk_lt c1
  have hn0 := hn.out
  obtain ⟨i0, hi0, hz0, hzs, hzb⟩ := info_parts info90
  have hkk : (i : Int) + (m : Int) + ((n - (i + 1) : Nat) : Int) - (i : Int) = ((m + (n - (i + 1)) : Nat) : Int) := by omega
  have hik : i + (m + (n - (i + 1))) = T := by omega
  have c1' : W0.drew.heap[a]? = some (.cells cs 90 (0, 0)) := by show W0.heap[a]? = _; rw [hW0h]; exact c1
  have hold : (Builtin.firstCells i0.size i (.slice (some ⟨a, off, none⟩) i c)).run Try.prog W0.drew = .ok (xs.take i).toArray W0.drew := by
    rw [hzs]
    exact run_firstCells_some W0.drew 1 i ⟨a, off, none⟩ i c (xs.take i) (by rw [List.length_take]; omega) (fun j v hj => by
      rw [Addr.add_lit]
      rw [List.getElem?_take] at hj
      split at hj
      · rw [blk_cell c1']; exact c4 j v hj
      · cases hj)
  have hrz := Lib.run_append_grow_zeros W0 92 3 3 90 i0 .nilIface .i64 .i64 t92 Try.underlying3 hi0 hz0 (some ⟨a, off, none⟩) i c (xs.take i) hold (m + (n - (i + 1))) (by omega) (by omega) (by omega) (by omega) (by rw [hzb]; omega) (by rw [hzb, hik]; exact growslice_fits (by omega) (by omega))
  rw [hik, ← hkk] at hrz
  have hG : T ≤ grownCap W0 T c 90 := grownCap_ge W0 _ _ _
  have hG63 : grownCap W0 T c 90 ≤ 9223372036854775807 := by
    have := grownCap_le_maxLen W0 T c 90 (by unfold maxLen; omega)
    unfold maxLen at this
    omega
  generalize grownCap W0 T c 90 = G at *
  obtain ⟨ROW, hROW⟩ : ∃ ROW : Array Value, ROW = (xs.take i).toArray ++ Builtin.zeroCells Value.nilIface.cells (m + (n - (i + 1))) ++ Builtin.zeroCells Value.nilIface.cells (G - T) := ⟨_, rfl⟩
  rw [← hROW] at hrz
  have hRl : ROW.size = G := by
    rw [hROW]
    simp [Builtin.zeroCells, Value.cells]
    omega
  have hR3 : ∀ j, j < i → ROW[j]? = xs[j]? := fun j hj => by
    rw [hROW, Array.append_assoc, Array.getElem?_append_left (by simp; omega)]
    simp [hj]
  obtain ⟨W1, hW1⟩ : ∃ W1, W1 = W0.drew.alloc (.cells ROW 90) := ⟨_, rfl⟩
  rw [← hW1] at hrz
  rw [show W0.heap.size = H by rw [hW0h, hH]] at hrz
  have hb : W1.heap[H]? = some (.cells ROW 90 (0, 0)) := by
    rw [hW1, show H = W0.drew.heap.size by show H = W0.heap.size; rw [hW0h, hH]]
    exact heap_alloc_new W0.drew _
  have hu1 : Upd (fun _ => False) w W1 := by rw [hW1]; exact (hW0u.drew).alloc _
  have hfin := repl_new hr.out hn.out hvl.out hi hT hG hH hb hRl hR3 hu1
  have hdl : (xs.drop (i + 1)).length = n - (i + 1) := by rw [List.length_drop, hn.out]
  have hcA : (Builtin.copy_ #[92, 92] 3 #[.slice (some ⟨H, i, none⟩) (T - i) (G - i), .slice (some ⟨vb, voff, none⟩) m vc]).run Try.prog W1 = .ok (goInt vs.length) (W1.setCells H i vs) :=
    run_copy_cells W1 _ _ 3 90 H i (T - i) (G - i) ⟨vb, voff, none⟩ m vc vs t92 size90 (by rw [hvl.out]; simp only [Nat.min_def]; split <;> omega)
      (fun j v hj => by rw [Addr.add_lit, World.cell?_of_block (w := w) (by exact hu1.block vb hvb (fun h => h))]; exact hvs.out j v hj)
      (fun j hj => by rw [blk_cell hb, Array.getElem?_eq_getElem (by have := hvl.out; omega)]; rfl) (fun j hj => blk_free hb _) h1v.out
  obtain ⟨d, d1, d2, d3, d4⟩ := blk_sets vs i W1 ROW hb (by have := hvl.out; omega)
  have hu2 : Upd (fun _ => False) w (W1.setCells H i vs) := upd_sets (S := fun _ => False) H (fun h => by omega) _ _ _ hu1
  obtain ⟨W2, hW2⟩ : ∃ W2, W2 = W1.setCells H i vs := ⟨_, rfl⟩
  rw [← hW2] at hcA d1 hu2 hfin
  have hcB : (Builtin.copy_ #[92, 92] 3 #[.slice (some ⟨H, i + m, none⟩) (T - (i + m)) (G - (i + m)), .slice (some ⟨a, off + (i + 1), none⟩) (n - (i + 1)) (c - (i + 1))]).run Try.prog W2.drew = .ok (goInt (xs.drop (i + 1)).length) (W2.drew.setCells H (i + m) (xs.drop (i + 1))) :=
    run_copy_cells W2.drew _ _ 3 90 H (i + m) (T - (i + m)) (G - (i + m)) ⟨a, off + (i + 1), none⟩ (n - (i + 1)) (c - (i + 1)) (xs.drop (i + 1)) t92 size90 (by rw [hdl]; simp only [Nat.min_def]; split <;> omega)
      (fun j v hj => by
        rw [Addr.add_lit, World.cell?_of_block (w := w) (by exact hu2.block a haH (fun h => h)), blk_cell c1, Nat.add_assoc]
        exact c4 (i + 1 + j) v (by rwa [List.getElem?_drop] at hj))
      (fun j hj => by rw [blk_cell (show W2.drew.heap[H]? = _ from d1), Array.getElem?_eq_getElem (by omega)]; rfl) (fun j hj => blk_free (show W2.drew.heap[H]? = _ from d1) _) (fun v hv => h1c.out v (List.mem_of_mem_drop hv))
  have HRZ := Lib.hid hrz; have HCA := Lib.hid hcA; have HCB := Lib.hid hcB; have HFIN := Lib.hid hfin
  clear hH hrz hcA hcB hfin hW2 hu2 d1 d2 d3 d4 hdl hu1 hb hW1 hR3 hRl hROW hold c1' c1 c2 c3 c4 hi0 hz0 hzs hzb hW0h hW0u hkk hn0
  have hw1 : IntKind.i64.wrap ((i : Int) + (m : Int)) = (i : Int) + (m : Int) := by rw [IntKind.wrap_i64]; omega
  have hw2 : (0 : Int) ≤ (i : Int) + (m : Int) := by omega
  have hw3 : (i : Int) + (m : Int) ≤ (T : Int) := by omega
  have hw4 : ((i : Int) + (m : Int)).toNat = i + m := by omega
  have hw5 : ¬ (G = i + m) := by omega
  have hw6 : ¬ (G = i) := by omega
  have hw7 : ¬ (c = i + 1) := by omega
  have hw8 : ((i : Int) + 1).toNat = i + 1 := by omega
  have hw9 : (i : Int) + 1 ≤ (n : Int) := by omega
  have hw10 : (i : Int) ≤ (T : Int) := by omega
  go_wp2_with (first
    | (at_builtin; go_must (refine Lib.wpList_append_run _ rfl (.tmp 63) (.tmp 66) _ _ rfl _ _ rfl rfl _ _ HRZ.out ?_))
    | (refine wpList_copy_runI _ rfl (.tmp 70) (.tmp 71) 92 92 rfl (.slice (some ⟨H, i, none⟩) (T - i) (G - i)) (.slice (some ⟨vb, voff, none⟩) m vc) rfl rfl HCA.out ?_))
  go_region_law (refine step_copy_runI rfl _ _ 92 92 rfl (.slice (some ⟨H, i + m, none⟩) (T - (i + m)) (G - (i + m))) (.slice (some ⟨a, off + (i + 1), none⟩) (n - (i + 1)) (c - (i + 1))) (by simp [Act.eval, Act.put]) (by simp [Act.eval, Act.put]) HCB.out ?_)
  all_goals
    go_wp2_with fail
    go_ret
    exact HFIN.out

end Go.Proofs.Ytpehceccnjdfeaa
