/- Check; New. -/
import Derived.Test.YtpehceccnjdfeaaC0
namespace Go.Proofs.Ytpehceccnjdfeaa
open Go.RowKit

theorem check_any (v : Value) (l : List Cl) (w : World) (h : Reads w v l) : Calls Try.prog 39 #[v] w fun e w' => e = .returned (.int .i64 (if (readF l).isSome then 0 else 40)) ∧ Below w.heap.size w w' := by
  have H := read_any v l w h
  have HH := Lib.hid H; clear H h
  cases hr : readF l with
  | none =>
    rw [hr] at HH
    go_enter Try.func39, Try.ntmps39
    go_wp2_with fail
    refine HH.out.mono ?_
    rintro e w' ⟨hb, rfl⟩
    have Hb := Lib.hid hb; clear hb
    go_wp2_with fail
    go_ret
    exact ⟨rfl, Hb.out⟩
  | some r =>
    rw [hr] at HH
    go_enter Try.func39, Try.ntmps39
    go_wp2_with fail
    refine HH.out.mono ?_
    rintro e w' ⟨hb, a, rfl, _⟩
    have Hb := Lib.hid hb; clear hb
    obtain ⟨ty, hv, _⟩ := val_parts a
    rw [hv]
    go_wp2_with fail
    go_ret
    exact ⟨rfl, Hb.out⟩

/-- New: the list and the error. -/
def newF (W H p : Int) : List Cl × Int :=
  if !(sideB W && sideB H) then ([], 41) else if !idB p then ([], 43) else ([⟨0, 1, 0, 0, W, H, p⟩], 0)

/-- A list of the call's own, and an error. -/
def ListPost (w : World) (res : List Cl × Int) (e : Ending) (w' : World) : Prop :=
  ∃ v, e = .returned (.tuple #[v, .int .i64 res.2]) ∧ Owned w' w.heap.size v res.1 ∧ Below w.heap.size w w'

theorem owned_one (w : World) (c : Cl) : Owned (w.alloc (.cells c.vals.toArray 53)) w.heap.size (.slice (some ⟨w.heap.size, 0, none⟩) 1 1) [c] := by
  have := World.ownsRow_lit (base := w.heap.size) (e := 53) (size := 7) w c.vals.toArray 1 (Nat.le_refl _) (by unfold maxLen; omega) (by rfl)
  simpa [Owned, cvals_one] using this

theorem new_any (W H p : Int) (w : World) : Calls Try.prog 21 #[.int .i64 W, .int .i64 H, .int .i64 p] w fun e w' => ListPost w (newF W H p) e w' := by
  by_cases h1 : sideB W = true
  · by_cases h2 : sideB H = true
    · by_cases h3 : idB p = true
      · have : newF W H p = ([⟨0, 1, 0, 0, W, H, p⟩], 0) := by simp [newF, h1, h2, h3]
        rw [this]
        go_enter Try.func21, Try.ntmps21
        go_wp2_with (first
          | (go_at_call 63; refine (side_any _ _).mono ?_; rintro e w' ⟨rfl, rfl⟩)
          | (go_at_call 64; refine (id_any _ _).mono ?_; rintro e w' ⟨rfl, rfl⟩))
        go_ret2
        exact ⟨_, rfl, owned_one w ⟨0, 1, 0, 0, W, H, p⟩, (Below.refl _ _).alloc (Nat.le_refl _) _⟩
      · have h4 : idB p = false := by simpa using h3
        clear h3
        have : newF W H p = ([], 43) := by simp [newF, h1, h2, h4]
        rw [this]
        go_enter Try.func21, Try.ntmps21
        go_wp2_with (first
          | (go_at_call 63; refine (side_any _ _).mono ?_; rintro e w' ⟨rfl, rfl⟩)
          | (go_at_call 64; refine (id_any _ _).mono ?_; rintro e w' ⟨rfl, rfl⟩))
        go_ret2
        exact ⟨_, rfl, Owned.nil _ _, Below.refl _ _⟩
    · have h4 : sideB H = false := by simpa using h2
      clear h2
      have : newF W H p = ([], 41) := by simp [newF, h1, h4]
      rw [this]
      go_enter Try.func21, Try.ntmps21
      go_wp2_with (first
        | (go_at_call 63; refine (side_any _ _).mono ?_; rintro e w' ⟨rfl, rfl⟩)
        | (go_at_call 64; refine (id_any _ _).mono ?_; rintro e w' ⟨rfl, rfl⟩))
      go_ret2
      exact ⟨_, rfl, Owned.nil _ _, Below.refl _ _⟩
  · have h4 : sideB W = false := by simpa using h1
    clear h1
    have : newF W H p = ([], 41) := by simp [newF, h4]
    rw [this]
    go_enter Try.func21, Try.ntmps21
    go_wp2_with (first
      | (go_at_call 63; refine (side_any _ _).mono ?_; rintro e w' ⟨rfl, rfl⟩)
      | (go_at_call 64; refine (id_any _ _).mono ?_; rintro e w' ⟨rfl, rfl⟩))
    go_ret2
    exact ⟨_, rfl, Owned.nil _ _, Below.refl _ _⟩

end Go.Proofs.Ytpehceccnjdfeaa
