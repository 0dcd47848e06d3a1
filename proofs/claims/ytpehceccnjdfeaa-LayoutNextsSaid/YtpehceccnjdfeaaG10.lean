/- The closed facts of LayoutNexts's row, each by itself; joined. -/
import Derived.Test.YtpehceccnjdfeaaG00
namespace Go.Proofs.Ytpehceccnjdfeaa
namespace LayoutNextsF

theorem wf : OpenClaim.wf (OpenSpec.ofChange Rows.layoutNextsSpec) Rows.layoutNextsRow = true := by kernel_rfl
theorem params : (Try.f5.params.all fun x => Try.prog.readableRec x) = true := by kernel_rfl
theorem tie : namedTie Try.prog Rows.layoutNextsRow.named Rows.layoutNextsSpec.vars = true := by kernel_rfl
theorem stops : (Rows.layoutNextsRow.stops == []) = true := by kernel_rfl
theorem knobs : (Rows.layoutNextsRow.knobs == []) = true := by kernel_rfl
theorem inplace : (Rows.layoutNextsRow.inPlace == Try.prog.inPlace 5) = true := by kernel_rfl
theorem unfollowed : (Rows.layoutNextsRow.unfollowed == Try.prog.unfollowed 5) = true := by kernel_rfl
theorem recurses : (Rows.layoutNextsRow.recurses == Try.prog.recurses 5) = true := by kernel_rfl
theorem named : (Rows.layoutNextsRow.named == Try.prog.varsNamed 5) = true := by kernel_rfl
theorem maps : (Rows.layoutNextsRow.maps == (Try.f5.params.toList ++ DataSpec.varTypes Try.prog Rows.layoutNextsSpec.plain).any fun x => Try.prog.mapsRec x) = true := by kernel_rfl
theorem ifaces : (Rows.layoutNextsRow.ifaces == (Try.f5.params.toList ++ DataSpec.varTypes Try.prog Rows.layoutNextsSpec.plain).any fun x => Try.prog.ifacesRec x) = true := by kernel_rfl
theorem mapsout : (Rows.layoutNextsRow.mapsOut == Try.prog.mapsAmong Try.f5.resultTypes.toList) = true := by kernel_rfl
theorem loops : (Rows.layoutNextsRow.loops == (Try.f5.params.toList ++ DataSpec.varTypes Try.prog Rows.layoutNextsSpec.plain).any fun x => Try.prog.loopsFrom x) = true := by kernel_rfl
theorem widekeys : (Rows.layoutNextsRow.wideKeys == (Try.f5.params.toList ++ DataSpec.varTypes Try.prog Rows.layoutNextsSpec.plain ++ Try.f5.resultTypes.toList).any fun x => Try.prog.wideKeysFrom x) = true := by kernel_rfl
theorem vars : (Rows.layoutNextsSpec.vars.all fun x => Try.prog.varReadable x) = true := by kernel_rfl
theorem results : (Try.f5.resultTypes.all fun t => Try.prog.readableRec t && decide (t < Try.prog.types.size)) = true := by kernel_rfl
theorem ifacesout : (Rows.layoutNextsRow.ifacesOut == Try.f5.resultTypes.toList.any fun x => Try.prog.ifacesRec x) = true := by kernel_rfl
theorem loopsout : (Rows.layoutNextsRow.loopsOut == Try.f5.resultTypes.toList.any fun x => Try.prog.loopsFrom x) = true := by kernel_rfl
theorem short : Rows.layoutNextsRow.shortTexts.isNone = true := by kernel_rfl
theorem kinds : (Rows.layoutNextsRow.kinds == if Rows.layoutNextsRow.domain.isEmpty = true then [] else List.map (fun t => match Try.prog.underlying t with | some (TypeDesc.int k) => some k | _ => none) Try.f5.params.toList) = true := by kernel_rfl
theorem pinned : (Rows.layoutNextsRow.pinned == Rows.layoutNextsRow.pinnedBy) = true := by kernel_rfl
theorem veiled : (Rows.layoutNextsRow.veiled == (Try.f5.params.toList ++ DataSpec.varTypes Try.prog Rows.layoutNextsSpec.plain ++ Try.f5.resultTypes.toList).any fun x => Try.prog.veiledRec x) = true := by kernel_rfl
theorem veils : Rows.layoutNextsRow.veiledFits Try.prog Try.f5.params.toList (Try.f5.params.toList ++ DataSpec.varTypes Try.prog Rows.layoutNextsSpec.plain ++ Try.f5.resultTypes.toList) = true := by kernel_rfl

set_option maxRecDepth 100000 in
theorem all : joinedFacts Try.prog 5 Try.f5 Rows.layoutNextsSpec Rows.layoutNextsRow = true := by
  unfold joinedFacts
  exact (and_tr (and_tr (and_tr (and_tr (and_tr (and_tr (and_tr (and_tr (and_tr (and_tr (and_tr (and_tr (and_tr (and_tr (and_tr (and_tr (and_tr (and_tr (and_tr (and_tr (and_tr (and_tr (and_tr (and_tr (and_tr (and_tr (and_tr (and_tr (and_tr (and_tr (and_tr wf whole_laid) whole_maps) params) tie) stops) whole_stops) knobs) whole_knobs) inplace) unfollowed) recurses) named) maps) ifaces) mapsout) loops) widekeys) vars) results) ifacesout) loopsout) whole_keys) short) whole_heard) whole_enter) whole_lift) whole_make) kinds) pinned) veiled) veils)

end LayoutNextsF
end Go.Proofs.Ytpehceccnjdfeaa
