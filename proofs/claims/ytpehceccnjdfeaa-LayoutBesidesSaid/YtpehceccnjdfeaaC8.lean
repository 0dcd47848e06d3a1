/- slices.Replace of the last cell by some. -/
import Derived.Test.YtpehceccnjdfeaaC7
namespace Go.Proofs.Ytpehceccnjdfeaa
open Go.RowKit Go.Lib

theorem repl_end_in {w w1 : World} {a off cap n m i : Nat} {xs vs : List Value} (hr : Row w a off cap xs) (hn : xs.length = n) (hm : vs.length = m) (hi : i + 1 = n) (hm0 : 0 < m) (hc : i + m ≤ cap) (h1 : w1 = w.setCells a (off + i) vs) :
    ReplPost w a n m i xs vs (.returned (.slice (some ⟨a, off, none⟩) (i + m) cap)) w1 := by
  obtain ⟨q1, q2⟩ := repl_in (w1 := w) (w2 := w) hr hn hm (show i < n by omega) (by omega) rfl rfl (Upd.refl _ w) ⟨rfl, rfl, rfl⟩ (w3 := w1) (by rw [h1, List.drop_of_length_le (by omega)]; rfl)
  exact ⟨a, off, cap, by rw [show n + m - 1 = i + m by omega], q1, .inl rfl, q2⟩

theorem repl_end_out {w : World} {a off cap n m i G k : Nat} {xs vs : List Value} {z : Value} (hr : Row w a off cap xs) (hn : xs.length = n) (hm : vs.length = m) (hi : i + 1 = n) (hm0 : 0 < m) (hG : i + m ≤ G) (hz : z.cells.size = 1) (hk : k = G - (i + m)) :
    ReplPost w a n m i xs vs (.returned (.slice (some ⟨w.heap.size, 0, none⟩) (i + m) G)) (w.drew.alloc (.cells ((xs.take i ++ vs).toArray ++ Builtin.zeroCells z.cells k) 90)) := by
  have l1 : (xs.take i).length = i := by simp; omega
  refine ⟨w.heap.size, 0, G, by rw [show n + m - 1 = i + m by omega], ?_, .inr (Nat.le_refl _), ((Upd.refl _ w).drew).alloc _⟩
  refine Row.of (cs := (xs.take i ++ vs).toArray ++ Builtin.zeroCells z.cells k) (heap_alloc_new w.drew _) ?_ ?_ ?_
  · simp [Builtin.zeroCells, hz, l1, hm]; omega
  · rw [mid_len hn hm (by omega)]; omega
  · intro j v hv
    rw [List.drop_of_length_le (by omega), List.append_nil] at hv
    have hj := (List.getElem?_eq_some_iff.1 hv).1
    rw [Nat.zero_add, Array.getElem?_append_left (by simpa using hj)]
    simpa using hv

set_option maxHeartbeats 4000000 in
set_option maxRecDepth 100000 in
theorem repl_end (a off n c i vb voff m vc : Nat) (xs vs : List Value) (w : World) (hi : i + 1 = n) (hm : 2 ≤ m) (hnc : n ≤ c) (hbig : (n + m) * 16 ≤ 140737488355328)
    (hr : Hid (Row w a off c xs)) (hn : Hid (xs.length = n)) (hvl : Hid (vs.length = m)) (h1c : Hid (∀ v ∈ xs, v.oneCell' = true)) (h1v : Hid (∀ v ∈ vs, v.oneCell' = true))
    (hvs : Hid (∀ j v, vs[j]? = some v → w.cell? ⟨vb, voff + j, none⟩ = some v)) :
    Calls Try.prog 74 #[.slice (some ⟨a, off, none⟩) n c, .int .i64 i, .int .i64 ((i : Int) + 1), .slice (some ⟨vb, voff, none⟩) m vc] w fun e w' => ReplPost w a n m i xs vs e w' := by
  have t92 := Try.underlying92
  have hb1 : (0 : Int) ≤ (i : Int) + 1 := by omega
  have hb2 : (i : Int) + 1 ≤ (c : Int) := by omega
  have hb3 : ((i : Int) + 1 == (n : Int)) = true := by simp; omega
  have hb4 : ((i : Int) == (i : Int) + 1) = false := by simp; omega
  obtain ⟨cs, c1, c2, c3, c4⟩ := hr.out.open
  have hn0 := hn.out
  obtain ⟨i0, hi0, hz0, hzs, hzb⟩ := info_parts info90
  have hsrc1 : Src Try.prog 1 92 (.slice (some ⟨vb, voff, none⟩) m vc) m vs w := Src.ofSlice w t92 ⟨vb, voff, none⟩ m vc vs (by rw [hvl.out]; omega) (fun j u hj => by rw [Addr.add_lit]; exact hvs.out j u hj) h1v.out
  by_cases hroom : i + m ≤ c
  · have hsp : ∀ j, j < vs.length → (w.cell? ⟨a, off + i + j, none⟩).isSome = true := fun j hj => by rw [blk_cell c1, Array.getElem?_eq_getElem (by have := hvl.out; omega)]; rfl
    have hfz : ∀ j, j < vs.length → w.frozen? ⟨a, off + i + j, none⟩ = false := fun j hj => blk_free c1 _
    have HS := Lib.hid hsrc1; have HSP := Lib.hid hsp; have HFZ := Lib.hid hfz
    clear hsrc1 hsp hfz c1 c2 c3 c4 hn0 hi0 hz0 hzs hzb
    go_enter Try.func74, Try.ntmps74
    go_wp2_with (at_builtin; go_must (refine wpList_append_room1 _ rfl (.tmp 32) (.tmp 33) 92 92 rfl 90 _ _ t92 info90 a off i c rfl _ rfl m vs HS.out hroom HSP.out HFZ.out ?_))
    go_ret
    exact repl_end_in hr.out hn.out hvl.out hi (by omega) hroom rfl
  · have hsrc : Src Try.prog i0.size 92 (.slice (some ⟨vb, voff, none⟩) m vc) m vs w := by rw [hzs]; exact hsrc1
    have hold : (Builtin.firstCells i0.size i (.slice (some ⟨a, off, none⟩) i c)).run Try.prog w.drew = .ok (xs.take i).toArray w.drew := by
      rw [hzs]
      exact run_firstCells_some w.drew 1 i ⟨a, off, none⟩ i c (xs.take i) (by rw [List.length_take]; omega) (fun j v hj => by
        rw [Addr.add_lit]
        rw [List.getElem?_take] at hj
        split at hj
        · show w.cell? _ = _
          rw [blk_cell c1]; exact c4 j v hj
        · cases hj)
    have hrun : ∀ ty, (Builtin.append_ #[92, 92] ty #[.slice (some ⟨a, off, none⟩) i c, .slice (some ⟨vb, voff, none⟩) m vc]).run Try.prog w = _ := fun ty =>
      run_append_grow_src w 92 92 ty 90 i0 _ t92 hi0 hz0 (some ⟨a, off, none⟩) i c (xs.take i) hold _ m vs hsrc (by omega) (by omega) (by rw [hzb]; exact growslice_fits (by omega) (by omega))
    have hG : i + m ≤ grownCap w (i + m) c 90 := grownCap_ge w _ _ _
    generalize grownCap w (i + m) c 90 = G at *
    obtain ⟨W1, hW1⟩ : ∃ W1, W1 = w.drew.alloc (.cells ((xs.take i ++ vs).toArray ++ Builtin.zeroCells Value.nilIface.cells (G - (i + m))) 90) := ⟨_, rfl⟩
    rw [← hW1] at hrun
    have HR := Lib.hid hrun
    have hfin := repl_end_out (z := .nilIface) (G := G) (k := G - (i + m)) hr.out hn.out hvl.out hi (by omega) hG rfl rfl
    rw [← hW1] at hfin
    have HFIN := Lib.hid hfin; clear hfin hW1
    clear hrun hold hsrc hsrc1 c1 c2 c3 c4 hn0 hi0 hz0 hzs hzb
    go_enter Try.func74, Try.ntmps74
    go_wp2_with (at_builtin; go_must (refine Lib.wpList_append_run _ rfl (.tmp 32) (.tmp 33) _ _ rfl _ _ rfl rfl _ _ (HR.out _) ?_))
    go_ret
    exact HFIN.out

end Go.Proofs.Ytpehceccnjdfeaa
