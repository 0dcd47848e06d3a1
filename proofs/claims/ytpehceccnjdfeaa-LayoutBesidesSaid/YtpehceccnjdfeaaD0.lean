/- slices.Replace, slices.Index of cells; pair; parent. -/
import Derived.Test.YtpehceccnjdfeaaC9
namespace Go.Proofs.Ytpehceccnjdfeaa
open Go.RowKit Go.Lib

theorem shape_blk {w : World} {b : Nat} {cs : Array Value} {t : TypeId} {fr : Nat × Nat} (h : w.heap[b]? = some (.cells cs t fr)) : w.shape? b = some (t, cs.size) := by
  simp [World.shape?, h]

theorem overlaps120 {w : World} {a vb o voff la ca m vc : Nat} {cs ds : Array Value} {t : TypeId} (h1 : w.heap[a]? = some (.cells cs 90 (0, 0))) (h2 : w.heap[vb]? = some (.cells ds t (0, 0))) (hne : a ≠ vb) (hd : ds.size ≠ 0) :
    (callFunc 120 #[.slice (some ⟨a, o, none⟩) la ca, .slice (some ⟨vb, voff, none⟩) m vc]).run Try.prog w = .ok (.value (.bool false)) w := by
  rw [run_callFunc_extern Try.func120 (by kernel_rfl) (by kernel_rfl) (by kernel_rfl) (e := Extern.SlicesOverlaps.overlaps #[92, 92] #[4]) (by kernel_rfl),
    Lib.run_overlaps_apart w 92 4 90 Try.underlying92 1 (fun w => by kernel_rfl) ⟨a, o, none⟩ ⟨vb, voff, none⟩ la ca m vc hne 90 t cs.size ds.size (shape_blk h1) (shape_blk h2) hd (blk_free h1 _) (blk_free h1 _)]
  rfl

/-- slices.Replace of one cell by some. -/
theorem replace_any (a off c i vb voff m vc : Nat) (xs vs : List Value) (w : World) (ds : Array Value) (hi : i < xs.length) (hm : 2 ≤ m) (hbig : (xs.length + m) * 16 ≤ 140737488355328) (hne : vb ≠ a)
    (hr : Row w a off c xs) (hvl : vs.length = m) (h1c : ∀ v ∈ xs, v.oneCell' = true) (h1v : ∀ v ∈ vs, v.oneCell' = true) (hvb : w.heap[vb]? = some (.cells ds 90 (0, 0)))
    (hvs : ∀ j v, vs[j]? = some v → w.cell? ⟨vb, voff + j, none⟩ = some v) :
    Calls Try.prog 74 #[.slice (some ⟨a, off, none⟩) xs.length c, .int .i64 i, .int .i64 ((i : Int) + 1), .slice (some ⟨vb, voff, none⟩) m vc] w fun e w' => ReplPost w a xs.length m i xs vs e w' := by
  obtain ⟨cs, c1, c2, c3, c4⟩ := hr.open
  by_cases h1 : i + 1 = xs.length
  · exact repl_end a off _ c i vb voff m vc xs vs w h1 hm c3 hbig (Lib.hid hr) rfl (Lib.hid hvl) (Lib.hid h1c) (Lib.hid h1v) (Lib.hid hvs)
  · by_cases h2 : xs.length + m ≤ c + 1
    · have hov : Hid (∀ o lb cb w1, w1.heap = w.heap → (callFunc 120 #[.slice (some ⟨a, o, none⟩) lb cb, .slice (some ⟨vb, voff, none⟩) m vc]).run Try.prog w1 = .ok (.value (.bool false)) w1) := by
        intro o lb cb w1 hw
        have hd : ds.size ≠ 0 := by
          intro h0
          have hv0 := hvs 0 (vs[0]'(by omega)) (by simp)
          rw [blk_cell hvb, Array.getElem?_eq_none (by omega)] at hv0
          cases hv0
        exact overlaps120 (by rw [hw]; exact c1) (by rw [hw]; exact hvb) (Ne.symm hne) hd
      exact repl_shift a off _ c i vb voff m vc xs vs w (by omega) hm h2 hbig hne (Lib.hid hr) rfl (Lib.hid hvl) (Lib.hid h1c) (Lib.hid h1v) (Lib.hid hvs) hov
    · exact repl_grow a off _ c i vb voff m vc xs vs w (by omega) hm c3 (by omega) hbig (blk_lt hvb) (Lib.hid hr) rfl (Lib.hid hvl) (Lib.hid h1c) (Lib.hid h1v) (Lib.hid hvs)

end Go.Proofs.Ytpehceccnjdfeaa
