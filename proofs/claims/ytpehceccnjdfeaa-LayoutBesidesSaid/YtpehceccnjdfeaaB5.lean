/- grow: a list is made a tree. -/
import Derived.Test.YtpehceccnjdfeaaB3
import Derived.Test.YtpehceccnjdfeaaA4
namespace Go.Proofs.Ytpehceccnjdfeaa
open Go.RowKit

/-- What grow leaves. -/
def GrowPost (B : Nat) (w : World) (res : Option (R × List Cl)) (e : Ending) (w' : World) : Prop :=
  Below w.heap.size w w' ∧ match res with
  | none => ∃ v, e = .returned (.tuple #[.nilIface, v])
  | some (r, l') => ∃ a v, e = .returned (.tuple #[a.val, v]) ∧ ReadsB B w' v l' ∧ Rep w' a r ∧ a.blks.Nodup ∧ ∀ k ∈ a.blks, w.heap.size ≤ k

set_option maxRecDepth 100000 in
theorem grow_leaf (B b off n cap : Nat) (c : Cl) (l : List Cl) (d : Int) (w : World) (hB : B ≤ w.heap.size) (hbB : b < B) (hn : 1 ≤ n) (hcap : n ≤ cap) (hc56 : Hid (CapOk n cap)) (hk : Hid (c.k = 1)) (hlen : Hid (n = (c :: l).length))
    (hc : Hid (∀ (i : Nat) (e : Cl), (c :: l)[i]? = some e → ∀ j, j < 7 → w.cell? ⟨b, off + i * 7 + j, none⟩ = e.vals[j]?)) :
    Calls Try.prog 116 #[.slice (some ⟨b, off, none⟩) n cap, .int .i64 d] w fun e w' => GrowPost B w (some (.mk 1 c.w c.h c.p [], l)) e w' := by
  have g := hc.out 0 c rfl
  have a0 := g 0 (by omega); have a1 := g 1 (by omega); have a2 := g 2 (by omega); have a3 := g 3 (by omega); have a4 := g 4 (by omega); have a5 := g 5 (by omega); have a6 := g 6 (by omega)
  clear g
  simp only [Cl.vals, List.getElem?_cons_zero, List.getElem?_cons_succ, Nat.add_zero, Nat.zero_mul] at a0 a1 a2 a3 a4 a5 a6
  rw [hk.out] at a1
  have n0 : (0:Int) < (n:Int) := by omega
  have hb := World.block_lt_of_cell? w _ a0
  have key : ∀ (ad : Option Addr) (cp : Nat), ReadsB B w (.slice ad (n - 1) cp) l →
      GrowPost B w (some (.mk 1 c.w c.h c.p [], l)) (.returned (.tuple #[.iface 95 (.pointer (some ⟨w.heap.size + 1 + 1, 0, none⟩)), .slice ad (n - 1) cp]))
        (((w.alloc (.cells #[.int .i64 c.d, .int .i64 1, .int .i64 c.x, .int .i64 c.y, .int .i64 c.w, .int .i64 c.h, .int .i64 c.p] 53)).alloc (.cells #[.int .i64 0, .int .i64 0, .int .i64 c.w, .int .i64 c.h] 98)).alloc (.cells #[.int .i64 0, .int .i64 0, .int .i64 c.w, .int .i64 c.h, .int .i64 c.p] 100)) := by
    intro ad cp hr
    have hbel := (((Below.refl w.heap.size w).alloc (Nat.le_refl _) (.cells #[.int .i64 c.d, .int .i64 1, .int .i64 c.x, .int .i64 c.y, .int .i64 c.w, .int .i64 c.h, .int .i64 c.p] 53)).alloc (by simp) (.cells #[.int .i64 0, .int .i64 0, .int .i64 c.w, .int .i64 c.h] 98)).alloc (by simp; omega) (.cells #[.int .i64 0, .int .i64 0, .int .i64 c.w, .int .i64 c.h, .int .i64 c.p] 100)
    refine ⟨hbel, .leaf (w.heap.size + 1 + 1), _, rfl, hr.below (hbel.mono hB), ⟨rfl, rfl, 0, 0, ?_⟩, by simp [A.blks], by simp [A.blks]; omega⟩
    have := heap_alloc_new ((w.alloc (.cells #[.int .i64 c.d, .int .i64 1, .int .i64 c.x, .int .i64 c.y, .int .i64 c.w, .int .i64 c.h, .int .i64 c.p] 53)).alloc (.cells #[.int .i64 0, .int .i64 0, .int .i64 c.w, .int .i64 c.h] 98)) (.cells #[.int .i64 0, .int .i64 0, .int .i64 c.w, .int .i64 c.h, .int .i64 c.p] 100)
    simpa using this
  have Hkey := Lib.hid key; clear key
  go_enter Try.func116, Try.ntmps116
  go_wp2_with fail
  · go_ret2
    refine Hkey.out _ _ ?_
    have h1 : n = 1 := by omega
    have hl := hlen.out
    rw [h1] at hl ⊢
    obtain rfl : l = [] := by cases l; rfl; simp at hl
    exact ReadsB.none_left _ _ (by simp [maxLen])
  · go_ret2
    refine Hkey.out _ _ ?_
    have hl : n - 1 = l.length := by have := hlen.out; simp only [List.length_cons] at this; omega
    rw [hl]
    exact ReadsB.tail_far (c := c) hbB (by have := hlen.out; omega) (by rw [← hlen.out]; exact hc56.out) hc.out

end Go.Proofs.Ytpehceccnjdfeaa
