/- grow: a list of one cell that says it is cut; grow of every list. -/
import Derived.Test.YtpehceccnjdfeaaB6
namespace Go.Proofs.Ytpehceccnjdfeaa
open Go.RowKit

set_option maxRecDepth 100000 in
set_option maxHeartbeats 1000000 in
theorem grow_split1 (B f b off : Nat) (c : Cl) (d : Int) (w : World) (hb1 : b < w.heap.size) (hk : (c.k == 1) = false) (hf : Hid (1 ≤ f))
    (hc : Hid (∀ j, j < 7 → w.cell? ⟨b, off + j, none⟩ = c.vals[j]?)) :
    Calls Try.prog 116 #[.slice (some ⟨b, off, none⟩) 1 1, .int .i64 d] w fun e w' => GrowPost B w (growF (f + 1) [c] d) e w' := by
  have g := hc.out
  have a0 := g 0 (by omega); have a1 := g 1 (by omega); have a2 := g 2 (by omega); have a3 := g 3 (by omega); have a4 := g 4 (by omega); have a5 := g 5 (by omega); have a6 := g 6 (by omega)
  clear g
  simp only [Cl.vals, List.getElem?_cons_zero, List.getElem?_cons_succ, Nat.add_zero] at a0 a1 a2 a3 a4 a5 a6
  go_enter Try.func116, Try.ntmps116
  go_wp2_with fail
  have hbel := (((Below.refl w.heap.size w).alloc (Nat.le_refl _) (.cells #[.int .i64 c.d, .int .i64 c.k, .int .i64 c.x, .int .i64 c.y, .int .i64 c.w, .int .i64 c.h, .int .i64 c.p] 53)).alloc (by simp) (.cells #[.int .i64 0, .int .i64 0, .int .i64 c.w, .int .i64 c.h] 98)).alloc (by simp; omega) (.cells #[.int .i64 0, .int .i64 0, .int .i64 c.w, .int .i64 c.h, .int .i64 c.k, .slice none 0 0] 105)
  have e3 := heap_alloc_new ((w.alloc (.cells #[.int .i64 c.d, .int .i64 c.k, .int .i64 c.x, .int .i64 c.y, .int .i64 c.w, .int .i64 c.h, .int .i64 c.p] 53)).alloc (.cells #[.int .i64 0, .int .i64 0, .int .i64 c.w, .int .i64 c.h] 98)) (.cells #[.int .i64 0, .int .i64 0, .int .i64 c.w, .int .i64 c.h, .int .i64 c.k, .slice none 0 0] 105)
  simp only [World.size_alloc] at e3
  generalize (((w.alloc (.cells #[.int .i64 c.d, .int .i64 c.k, .int .i64 c.x, .int .i64 c.y, .int .i64 c.w, .int .i64 c.h, .int .i64 c.p] 53)).alloc (.cells #[.int .i64 0, .int .i64 0, .int .i64 c.w, .int .i64 c.h] 98)).alloc (.cells #[.int .i64 0, .int .i64 0, .int .i64 c.w, .int .i64 c.h, .int .i64 c.k, .slice none 0 0] 105)) = w1 at *
  have s5 : w1.cell? ⟨w.heap.size + 1 + 1, 5, none⟩ = some (.slice none 0 0) := blk_cell e3 5
  have HB := Lib.hid hbel; clear hbel e3 a0 a1 a2 a3 a4 a5 a6
  go_loop [0, 9] (fun v s => v = .slice (some ⟨b, off, none⟩) 0 0 ∧ s = .int .i64 (-1)) (fun _ _ => 0)
  case atStart => exact ⟨rfl, rfl⟩
  case round =>
    obtain ⟨rfl, rfl⟩ := hrel
    go_wp2_with fail
    go_ret2
    have hk1 : ¬ c.k = 1 := by simpa using hk
    obtain ⟨f, rfl⟩ : ∃ q, f = q + 1 := ⟨f - 1, by have := hf.out; omega⟩
    rw [growF_cons, if_neg hk1, growK_nil]
    exact ⟨HB.out, _, rfl⟩

theorem grow_any (f : Nat) : GrowSaid f := by
  induction f using Nat.strongRecOn with
  | _ f ih =>
    intro B v l d w hB hf hne h64 hok hd0 hd hr
    cases l with
    | nil => exact absurd rfl hne
    | cons c l =>
      obtain ⟨f, rfl⟩ : ∃ q, f = q + 1 := ⟨f - 1, by omega⟩
      obtain ⟨a, cap, rfl, hcap, h56, hx⟩ := hr
      obtain ⟨b, off, rfl, hbB, hc⟩ := hx (by simp)
      simp only [List.length_cons] at hcap hf h64 hd
      by_cases hk : c.k = 1
      · have : growF (f + 1) (c :: l) d = some (.mk 1 c.w c.h c.p [], l) := by rw [growF_cons, if_pos hk]
        rw [this]
        exact grow_leaf B b off (l.length + 1) cap c l d w hB hbB (by omega) hcap h56 hk rfl hc
      · have hk2 : (c.k == 1) = false := by simpa using hk
        by_cases hc1 : cap = 1
        · subst hc1
          obtain rfl : l = [] := by cases l; rfl; simp at hcap
          refine grow_split1 B f b off c d w (by omega) hk2 (by show 1 ≤ f; simp at hf; omega) ?_
          intro j hj
          simpa using hc 0 c rfl j hj
        · exact grow_split B f (fun g hg => ih g hg) b off (l.length + 1) cap c l d w hB hbB (by omega) hcap hc1 h56 hk2 rfl (by show _ ≤ f; omega) (by show _ ≤ 63; omega) (fun e he => hok e (List.mem_cons_of_mem _ he)) (hok c (by simp)) hd0 (by show _ ≤ (100 : Int); omega) (by omega) hc

end Go.Proofs.Ytpehceccnjdfeaa
