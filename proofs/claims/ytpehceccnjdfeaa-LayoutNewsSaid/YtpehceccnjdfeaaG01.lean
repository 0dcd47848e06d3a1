/- The closed facts of LayoutNews's row, each by itself; joined. -/
import Derived.Test.YtpehceccnjdfeaaG00
namespace Go.Proofs.Ytpehceccnjdfeaa
namespace LayoutNewsF

theorem wf : OpenClaim.wf (OpenSpec.ofChange Rows.layoutNewsSpec) Rows.layoutNewsRow = true := by kernel_rfl
theorem params : (Try.f3.params.all fun x => Try.prog.readableRec x) = true := by kernel_rfl
theorem tie : namedTie Try.prog Rows.layoutNewsRow.named Rows.layoutNewsSpec.vars = true := by kernel_rfl
theorem stops : (Rows.layoutNewsRow.stops == []) = true := by kernel_rfl
theorem knobs : (Rows.layoutNewsRow.knobs == []) = true := by kernel_rfl
theorem inplace : (Rows.layoutNewsRow.inPlace == Try.prog.inPlace 3) = true := by kernel_rfl
theorem unfollowed : (Rows.layoutNewsRow.unfollowed == Try.prog.unfollowed 3) = true := by kernel_rfl
theorem recurses : (Rows.layoutNewsRow.recurses == Try.prog.recurses 3) = true := by kernel_rfl
theorem named : (Rows.layoutNewsRow.named == Try.prog.varsNamed 3) = true := by kernel_rfl
theorem maps : (Rows.layoutNewsRow.maps == (Try.f3.params.toList ++ DataSpec.varTypes Try.prog Rows.layoutNewsSpec.plain).any fun x => Try.prog.mapsRec x) = true := by kernel_rfl
theorem ifaces : (Rows.layoutNewsRow.ifaces == (Try.f3.params.toList ++ DataSpec.varTypes Try.prog Rows.layoutNewsSpec.plain).any fun x => Try.prog.ifacesRec x) = true := by kernel_rfl
theorem mapsout : (Rows.layoutNewsRow.mapsOut == Try.prog.mapsAmong Try.f3.resultTypes.toList) = true := by kernel_rfl
theorem loops : (Rows.layoutNewsRow.loops == (Try.f3.params.toList ++ DataSpec.varTypes Try.prog Rows.layoutNewsSpec.plain).any fun x => Try.prog.loopsFrom x) = true := by kernel_rfl
theorem widekeys : (Rows.layoutNewsRow.wideKeys == (Try.f3.params.toList ++ DataSpec.varTypes Try.prog Rows.layoutNewsSpec.plain ++ Try.f3.resultTypes.toList).any fun x => Try.prog.wideKeysFrom x) = true := by kernel_rfl
theorem vars : (Rows.layoutNewsSpec.vars.all fun x => Try.prog.varReadable x) = true := by kernel_rfl
theorem results : (Try.f3.resultTypes.all fun t => Try.prog.readableRec t && decide (t < Try.prog.types.size)) = true := by kernel_rfl
theorem ifacesout : (Rows.layoutNewsRow.ifacesOut == Try.f3.resultTypes.toList.any fun x => Try.prog.ifacesRec x) = true := by kernel_rfl
theorem loopsout : (Rows.layoutNewsRow.loopsOut == Try.f3.resultTypes.toList.any fun x => Try.prog.loopsFrom x) = true := by kernel_rfl
theorem short : Rows.layoutNewsRow.shortTexts.isNone = true := by kernel_rfl
theorem kinds : (Rows.layoutNewsRow.kinds == if Rows.layoutNewsRow.domain.isEmpty = true then [] else List.map (fun t => match Try.prog.underlying t with | some (TypeDesc.int k) => some k | _ => none) Try.f3.params.toList) = true := by kernel_rfl
theorem pinned : (Rows.layoutNewsRow.pinned == Rows.layoutNewsRow.pinnedBy) = true := by kernel_rfl
theorem veiled : (Rows.layoutNewsRow.veiled == (Try.f3.params.toList ++ DataSpec.varTypes Try.prog Rows.layoutNewsSpec.plain ++ Try.f3.resultTypes.toList).any fun x => Try.prog.veiledRec x) = true := by kernel_rfl
theorem veils : Rows.layoutNewsRow.veiledFits Try.prog Try.f3.params.toList (Try.f3.params.toList ++ DataSpec.varTypes Try.prog Rows.layoutNewsSpec.plain ++ Try.f3.resultTypes.toList) = true := by kernel_rfl

set_option maxRecDepth 100000 in
theorem all : joinedFacts Try.prog 3 Try.f3 Rows.layoutNewsSpec Rows.layoutNewsRow = true := by
  unfold joinedFacts
  exact (and_tr (and_tr (and_tr (and_tr (and_tr (and_tr (and_tr (and_tr (and_tr (and_tr (and_tr (and_tr (and_tr (and_tr (and_tr (and_tr (and_tr (and_tr (and_tr (and_tr (and_tr (and_tr (and_tr (and_tr (and_tr (and_tr (and_tr (and_tr (and_tr (and_tr (and_tr wf whole_laid) whole_maps) params) tie) stops) whole_stops) knobs) whole_knobs) inplace) unfollowed) recurses) named) maps) ifaces) mapsout) loops) widekeys) vars) results) ifacesout) loopsout) whole_keys) short) whole_heard) whole_enter) whole_lift) whole_make) kinds) pinned) veiled) veils)

end LayoutNewsF
end Go.Proofs.Ytpehceccnjdfeaa
