/- What the program's rows ask of the whole program: each by itself. -/
import Derived.Test.YtpehceccnjdfeaaRows
import Derived.JoinedOf
import Derived.KernelRfl
namespace Go.Proofs.Ytpehceccnjdfeaa

theorem and_tr {a b : Bool} (ha : a = true) (hb : b = true) : (a && b) = true := by rw [ha, hb]; rfl

theorem whole_laid : laidOutB Try.prog = true := by kernel_rfl
theorem whole_maps : mapsRowed Try.prog = true := by kernel_rfl
theorem whole_stops : (Try.prog.stops == []) = true := by kernel_rfl
theorem whole_knobs : (Try.prog.stopKnobs == []) = true := by kernel_rfl
theorem whole_keys : (true == Try.prog.plainKeys) = true := by kernel_rfl
theorem whole_heard : Try.prog.stopsHeard = true := by kernel_rfl
theorem whole_enter : Try.prog.mayEnter = true := by kernel_rfl

theorem whole_lift : (false == Try.prog.liftsFinal) = true := by kernel_rfl
theorem whole_make : (Try.prog.make == some Rows.layoutNewsRow.make) = true := by kernel_rfl

end Go.Proofs.Ytpehceccnjdfeaa
