/- read: the looks ahead of growing. -/
import Derived.Test.YtpehceccnjdfeaaB7
import Derived.Test.YtpehceccnjdfeaaB4
import Derived.Maps.OwnOps
import Derived.Maps.OwnSet
import Derived.Maps.Views
namespace Go.Proofs.Ytpehceccnjdfeaa
open Go.RowKit
open Go.Maps (Keyed int_keyed Tidy IsMap)

/-! ### The ids that read has seen -/
theorem mlaw : Keyed Try.prog 3 := int_keyed Try.underlying3
theorem mzero (w : World) : (zeroValue 3).run Try.prog w = .ok (.int .i64 0) w := by kernel_rfl
def key (p : Int) : Lit := .int .i64 p
def one (n : Int) : DataW Unit := .lit (.int .i64 n)

/-- Block b is the map of these ids. -/
def SeenD (D : DataW Unit) (ids : List Int) : Prop := Tidy D ∧ Go.Maps.size D = ids.length ∧ (∀ p, Go.Maps.has D (key p) = ids.contains p) ∧ (∀ p, D.atKey (key p) (one 0) = one (if p ∈ ids then 1 else 0))

theorem seen_nil : SeenD (.map []) [] := ⟨⟨[], rfl, List.Pairwise.nil⟩, rfl, fun p => rfl, fun p => rfl⟩
theorem seen_snoc {D : DataW Unit} {ids : List Int} (h : SeenD D ids) {p : Int} (hp : p ∉ ids) : SeenD (D.put (key p) (one 1)) (ids ++ [p]) := by
  obtain ⟨h1, h2, h3, h4⟩ := h
  refine ⟨h1.put (k := key p) trivial _, ?_, fun q => ?_, fun q => ?_⟩
  · rw [Go.Maps.size_put h1, h3 p]; simp [hp, h2]
  · by_cases e : q = p
    · subst e; rw [Go.Maps.has_put_same (k := key q) h1.isMap trivial]; simp
    · rw [Go.Maps.has_put_other (by simpa [key] using e), h3 q]; simp [e]
  · by_cases e : q = p
    · subst e; rw [Go.Maps.atKey_put_same (k := key q) h1.isMap trivial]; simp
    · rw [Go.Maps.atKey_put_other (by simpa [key] using e), h4 q]; simp [e]

/-- A look-up behind a guard. -/
theorem wpList_lookup_guard {H : Type} {P : Program} (w : World) {ops : Array Oper} {rest : List Oper} {o : Oper} {a : Act} {Q : Exit → Act → World → Prop}
    (hg : Region.wanted o (yielded ops a.tmps) = true) (m x : Operand) (t : TypeId) (hop : o.op = Op.lookup t m x false)
    (k e : TypeId) (q : IntKind) (K : Keyed P k) (ht : P.underlying t = some (.map k e)) (he : P.underlying e = some (.int q)) (hz : (zeroValue e).run P w = .ok (.int q 0) w) (b n : Nat) (D : DataW H)
    (hm : a.eval m = .map (some b)) (hown : w.ownsMap P k (plainElem P e) b n D) (key : Value) (kl : Lit) (hx : a.eval x = key) (hkey : keyOf P k key = some kl)
    (hK : ∀ c : Int, D.atKey kl (.lit (.int q 0)) = .lit (.int q c) → wpList P ops Q rest (a.put o.dst (.int q c)) w) :
    wpList P ops Q (o :: rest) a w := by
  refine wpList_step fun K' hK' => ?_
  rw [if_pos hg]
  obtain ⟨c, hrun, hat, hwc⟩ := hown.lookup_int K ht he hz hkey
  unfold Oper.wp
  simp [execOp, hop, hm, hx, hrun, Result.andThen]
  exact hK' _ _ (hK c hat)

/-- What read leaves. -/
def ReadPost (w : World) (res : Option R) (e : Ending) (w' : World) : Prop :=
  Below w.heap.size w w' ∧ match res with
  | none => e = .returned .nilIface
  | some r => ∃ a, e = .returned a.val ∧ Rep w' a r ∧ Pos w' a r 0 0 ∧ a.blks.Nodup ∧ ∀ k ∈ a.blks, w.heap.size ≤ k

set_option maxRecDepth 100000 in
theorem read_nil (a : Option Addr) (cap : Nat) (w : World) : Calls Try.prog 66 #[.slice a 0 cap] w fun e w' => ReadPost w none e w' := by
  go_enter Try.func66, Try.ntmps66
  go_wp2_with fail
  go_ret
  exact ⟨Below.refl _ _, rfl⟩

set_option maxRecDepth 100000 in
theorem read_long (a : Option Addr) (n cap : Nat) (w : World) (hn : (64 : Int) < (n : Int)) : Calls Try.prog 66 #[.slice a n cap] w fun e w' => ReadPost w none e w' := by
  have h0 : ((n : Int) == 0) = false := by simp; omega
  go_enter Try.func66, Try.ntmps66
  go_wp2_with fail
  go_ret
  exact ⟨Below.refl _ _, rfl⟩

set_option maxRecDepth 100000 in
theorem read_side (b off n cap : Nat) (W H : Int) (w : World) (hn0 : (0 : Int) < (n : Int)) (hn : ¬ (64 : Int) < (n : Int)) (h4 : w.cell? ⟨b, off + 4, none⟩ = some (.int .i64 W)) (h5 : w.cell? ⟨b, off + 5, none⟩ = some (.int .i64 H))
    (hs : Hid (¬ (sideB W = true ∧ sideB H = true))) : Calls Try.prog 66 #[.slice (some ⟨b, off, none⟩) n cap] w fun e w' => ReadPost w none e w' := by
  have h0 : ((n : Int) == 0) = false := by simp; omega
  by_cases hw : sideB W = true
  · have hh : sideB H = false := by have := hs.out; cases h : sideB H; rfl; exact absurd ⟨hw, h⟩ this
    go_enter Try.func66, Try.ntmps66
    go_wp2_with (go_at_call 63; refine (side_any _ _).mono ?_; rintro e w' ⟨rfl, rfl⟩)
    go_ret
    exact ⟨Below.refl _ _, rfl⟩
  · have hw : sideB W = false := by simpa using hw
    go_enter Try.func66, Try.ntmps66
    go_wp2_with (go_at_call 63; refine (side_any _ _).mono ?_; rintro e w' ⟨rfl, rfl⟩)
    go_ret
    exact ⟨Below.refl _ _, rfl⟩

end Go.Proofs.Ytpehceccnjdfeaa
