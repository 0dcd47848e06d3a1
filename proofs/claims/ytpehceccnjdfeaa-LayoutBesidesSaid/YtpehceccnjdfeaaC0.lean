/- read, whole. -/
import Derived.Test.YtpehceccnjdfeaaB9
namespace Go.Proofs.Ytpehceccnjdfeaa
open Go.RowKit

theorem read_any (v : Value) (l : List Cl) (w : World) (h : Reads w v l) : Calls Try.prog 66 #[v] w fun e w' => ReadPost w (readF l) e w' := by
  obtain ⟨a, cap, rfl, h1, h2, h3⟩ := h
  cases l with
  | nil => exact read_nil _ _ _
  | cons c0 t =>
    obtain ⟨b, off, rfl, hc⟩ := h3 (by simp)
    have hb : b < w.heap.size := World.block_lt_of_cell? w ⟨b, off + 0 * 7 + 0, none⟩ (u := .int .i64 c0.d) (by rw [hc 0 c0 rfl 0 (by omega)]; rfl)
    by_cases hn : (64 : Int) < ((c0 :: t).length : Int)
    · have : readF (c0 :: t) = none := by
        unfold readF; simp only []; rw [if_neg (fun h => by have := h.1; omega)]
      rw [this]
      exact read_long _ _ _ _ hn
    · by_cases hs : sideB c0.w = true ∧ sideB c0.h = true
      · exact read_main b off _ cap c0 t w (by simp only [List.length_cons]; omega) hn rfl h1 (Lib.hid h2) hs.1 hs.2 hb (Lib.hid hc)
      · have : readF (c0 :: t) = none := by
          unfold readF; simp only []; rw [if_neg (fun h => hs h.2)]
        rw [this]
        have a4 := hc 0 c0 rfl 4 (by omega)
        have a5 := hc 0 c0 rfl 5 (by omega)
        exact read_side _ _ _ _ _ _ _ (by simp only [List.length_cons]; omega) hn (by simpa [Cl.vals] using a4) (by simpa [Cl.vals] using a5) (Lib.hid hs)

end Go.Proofs.Ytpehceccnjdfeaa
