import Derived.Test.YtpehceccnjdfeaaG00
import Derived.Test.YtpehceccnjdfeaaG02
import Derived.Test.YtpehceccnjdfeaaH1
import Derived.Test.YtpehceccnjdfeaaF3
import Derived.Test.YtpehceccnjdfeaaK8

section
/- The closed facts of LayoutChecks's row, each by itself; joined. -/
namespace Go.Proofs.Ytpehceccnjdfeaa
namespace LayoutChecksF

theorem wf : OpenClaim.wf (OpenSpec.ofChange Rows.layoutChecksSpec) Rows.layoutChecksRow = true := by kernel_rfl
theorem params : (Try.f8.params.all fun x => Try.prog.readableRec x) = true := by kernel_rfl
theorem tie : namedTie Try.prog Rows.layoutChecksRow.named Rows.layoutChecksSpec.vars = true := by kernel_rfl
theorem stops : (Rows.layoutChecksRow.stops == []) = true := by kernel_rfl
theorem knobs : (Rows.layoutChecksRow.knobs == []) = true := by kernel_rfl
theorem inplace : (Rows.layoutChecksRow.inPlace == Try.prog.inPlace 8) = true := by kernel_rfl
theorem unfollowed : (Rows.layoutChecksRow.unfollowed == Try.prog.unfollowed 8) = true := by kernel_rfl
theorem recurses : (Rows.layoutChecksRow.recurses == Try.prog.recurses 8) = true := by kernel_rfl
theorem named : (Rows.layoutChecksRow.named == Try.prog.varsNamed 8) = true := by kernel_rfl
theorem maps : (Rows.layoutChecksRow.maps == (Try.f8.params.toList ++ DataSpec.varTypes Try.prog Rows.layoutChecksSpec.plain).any fun x => Try.prog.mapsRec x) = true := by kernel_rfl
theorem ifaces : (Rows.layoutChecksRow.ifaces == (Try.f8.params.toList ++ DataSpec.varTypes Try.prog Rows.layoutChecksSpec.plain).any fun x => Try.prog.ifacesRec x) = true := by kernel_rfl
theorem mapsout : (Rows.layoutChecksRow.mapsOut == Try.prog.mapsAmong Try.f8.resultTypes.toList) = true := by kernel_rfl
theorem loops : (Rows.layoutChecksRow.loops == (Try.f8.params.toList ++ DataSpec.varTypes Try.prog Rows.layoutChecksSpec.plain).any fun x => Try.prog.loopsFrom x) = true := by kernel_rfl
theorem widekeys : (Rows.layoutChecksRow.wideKeys == (Try.f8.params.toList ++ DataSpec.varTypes Try.prog Rows.layoutChecksSpec.plain ++ Try.f8.resultTypes.toList).any fun x => Try.prog.wideKeysFrom x) = true := by kernel_rfl
theorem vars : (Rows.layoutChecksSpec.vars.all fun x => Try.prog.varReadable x) = true := by kernel_rfl
theorem results : (Try.f8.resultTypes.all fun t => Try.prog.readableRec t && decide (t < Try.prog.types.size)) = true := by kernel_rfl
theorem ifacesout : (Rows.layoutChecksRow.ifacesOut == Try.f8.resultTypes.toList.any fun x => Try.prog.ifacesRec x) = true := by kernel_rfl
theorem loopsout : (Rows.layoutChecksRow.loopsOut == Try.f8.resultTypes.toList.any fun x => Try.prog.loopsFrom x) = true := by kernel_rfl
theorem short : Rows.layoutChecksRow.shortTexts.isNone = true := by kernel_rfl
theorem kinds : (Rows.layoutChecksRow.kinds == if Rows.layoutChecksRow.domain.isEmpty = true then [] else List.map (fun t => match Try.prog.underlying t with | some (TypeDesc.int k) => some k | _ => none) Try.f8.params.toList) = true := by kernel_rfl
theorem pinned : (Rows.layoutChecksRow.pinned == Rows.layoutChecksRow.pinnedBy) = true := by kernel_rfl
theorem veiled : (Rows.layoutChecksRow.veiled == (Try.f8.params.toList ++ DataSpec.varTypes Try.prog Rows.layoutChecksSpec.plain ++ Try.f8.resultTypes.toList).any fun x => Try.prog.veiledRec x) = true := by kernel_rfl
theorem veils : Rows.layoutChecksRow.veiledFits Try.prog Try.f8.params.toList (Try.f8.params.toList ++ DataSpec.varTypes Try.prog Rows.layoutChecksSpec.plain ++ Try.f8.resultTypes.toList) = true := by kernel_rfl

set_option maxRecDepth 100000 in
theorem all : joinedFacts Try.prog 8 Try.f8 Rows.layoutChecksSpec Rows.layoutChecksRow = true := by
  unfold joinedFacts
  exact (and_tr (and_tr (and_tr (and_tr (and_tr (and_tr (and_tr (and_tr (and_tr (and_tr (and_tr (and_tr (and_tr (and_tr (and_tr (and_tr (and_tr (and_tr (and_tr (and_tr (and_tr (and_tr (and_tr (and_tr (and_tr (and_tr (and_tr (and_tr (and_tr (and_tr (and_tr wf whole_laid) whole_maps) params) tie) stops) whole_stops) knobs) whole_knobs) inplace) unfollowed) recurses) named) maps) ifaces) mapsout) loops) widekeys) vars) results) ifacesout) loopsout) whole_keys) short) whole_heard) whole_enter) whole_lift) whole_make) kinds) pinned) veiled) veils)

end LayoutChecksF
end Go.Proofs.Ytpehceccnjdfeaa
end

section
/- Of every list: whether it is a layout, its panes and its least extents: as the document says; the list that was handed in stands as it stood. No condition. -/
namespace Go.Proofs.Ytpehceccnjdfeaa
open Go.ChangeShapes Go.WideShapes Go.ChangeAt Go.RowKit

namespace LayoutChecksA

set_option maxRecDepth 100000 in
theorem walk (v : Value) (l : List Cl) (w : World) (h : Reads w v l) (hl : l.length * 56 + 168 ≤ 140737488355328) (hz : l = [] → v = .slice none 0 0 ∨ ∃ ad c, v = .slice (some ad) 0 c) :
    Calls Try.prog 8 #[v] w fun e w' => e = .returned (.bool true) ∧ Below w.heap.size w w' := by
  have HT := Lib.hid (twin_any v l _ h hl hz)
  have HR := Lib.hid h
  clear h hz
  go_enter Try.func8, Try.ntmps8
  go_wp2_with fail
  refine HT.out.mono ?_
  rintro e w1 ⟨g, cap, rfl, ht, hb1⟩
  have h1 := least_any _ l w1 (ht.reads (by omega))
  generalize hres : leastF l = res at *
  obtain ⟨ra, rb, rc⟩ := res
  have HRES := Lib.hid hres
  have H1 := Lib.hid h1; have HTW := Lib.hid ht; have HB2 := Lib.hid hb1
  clear h1 ht hb1 HT hres
  go_wp2_with fail
  refine H1.out.mono ?_
  rintro e w2 ⟨rfl, hb2⟩
  have hb02 := HB2.out.trans (hb2.mono HB2.out.size)
  have h2 := rleast_any v l w2 (HR.out.below hb02)
  rw [HRES.out] at h2
  have H2 := Lib.hid h2; have HTW2 := Lib.hid (HTW.out.below hb2); have HB3 := Lib.hid hb02
  clear h2 hb2 hb02 HTW HB2 H1
  go_wp2_with fail
  refine H2.out.mono ?_
  rintro e w3 ⟨rfl, hb3⟩
  have HB4 := Lib.hid (HB3.out.trans (hb3.mono HB3.out.size)); have HTW3 := Lib.hid (HTW2.out.below hb3)
  have H3 := Lib.hid (works_any w3)
  clear hb3 HTW2 HB3 H2
  go_wp2_with fail
  refine H3.out.mono ?_
  rintro e w4 ⟨rfl, hb4⟩
  have hb04 := HB4.out.trans (hb4.mono HB4.out.size)
  have ht4 := HTW3.out.below hb4
  have h4 : Calls Try.prog 39 #[.slice (some ⟨g, 0, none⟩) l.length cap] w4 fun e w' => e = .returned (.int .i64 (checkF l)) ∧ Below w4.heap.size w4 w' := check_any _ l w4 (ht4.reads (by omega))
  generalize hck : checkF l = ck at *
  have HCK := Lib.hid hck
  have H4 := Lib.hid h4; have HTW4 := Lib.hid ht4; have HB5 := Lib.hid hb04
  clear h4 hb4 hb04 ht4 HTW3 HB4 H3 hck
  go_wp2_with fail
  refine H4.out.mono ?_
  rintro e w5 ⟨rfl, hb5⟩
  have hb05 := HB5.out.trans (hb5.mono HB5.out.size)
  have h5 := rcheck_any v l w5 (HR.out.below hb05)
  rw [HCK.out] at h5
  have H5 := Lib.hid h5; have HTW5 := Lib.hid (HTW4.out.below hb5); have HB6 := Lib.hid hb05
  clear h5 hb5 hb05 HTW4 HB5 H4
  go_wp2_with fail
  refine H5.out.mono ?_
  rintro e w6 ⟨rfl, hb6⟩
  have hb06 := HB6.out.trans (hb6.mono HB6.out.size)
  have ht6 := HTW5.out.below hb6
  have h6 := panes_any _ l w6 (ht6.reads (by omega))
  have H6 := Lib.hid h6; have HTW6 := Lib.hid ht6; have HB7 := Lib.hid hb06
  clear h6 hb6 hb06 ht6 HTW5 HB6 H5
  go_wp2_with fail
  refine H6.out.mono ?_
  rintro e w7 ⟨v7, rfl, o7, hb7⟩
  have hb07 := HB7.out.trans (hb7.mono HB7.out.size)
  have h7 := rpanes_any v l w7 (HR.out.below hb07)
  have H7 := Lib.hid h7; have HTW7 := Lib.hid (HTW6.out.below hb7); have HB8 := Lib.hid hb07; have HP1 := Lib.hid (reads1_of_owns o7)
  clear h7 hb7 hb07 HTW6 HB7 H6 o7
  go_wp2_with fail
  refine H7.out.mono ?_
  rintro e w8 ⟨v8, rfl, o8, hb8⟩
  have hlp := panesF_len l
  have h8 := sameInts_any v7 v8 (panesF l) w8 (HP1.out.below hb8) (reads1_of_owns o8) (by omega)
  have H8 := Lib.hid h8; have HTW8 := Lib.hid (HTW7.out.below hb8); have HB9 := Lib.hid (HB8.out.trans (hb8.mono HB8.out.size))
  clear h8 hb8 HTW7 HB8 H7 o8 HP1 hlp
  go_wp2_with fail
  refine H8.out.mono ?_
  rintro e w9 ⟨rfl, q, rfl⟩
  have hb09 := below_drewN HB9.out q
  have hbq : Below w8.heap.size w8 (w8.drewN q) := below_drewN (Below.refl _ _) q
  have h9 := kept_any v l _ g cap _ (HR.out.below hb09) hl (HTW8.out.below hbq)
  have H9 := Lib.hid h9
  clear h9 hb09 hbq HTW8 H8
  go_wp2_with fail
  refine H9.out.mono ?_
  rintro e w10 ⟨rfl, q2, rfl⟩
  go_wp2_with fail
  go_ret
  exact ⟨by simp, below_drewN HB9.out _⟩

set_option maxRecDepth 100000 in
theorem lifted (os : Os) (started : os.Started) (H : Type) (enc : TypeId × Value → H) :
    ReturnsInHanded {} Try.checked os 8 .any (Rows.layoutChecksSpec.pre6 enc Try.prog Try.f8 Rows.layoutChecksRow.domain false) (Rows.layoutChecksSpec.post enc Try.prog Try.f8 false true false false) := by
  refine returnsInHanded_of_change_sized (C := Try.checked) own_knob started (by kernel_rfl) Try.func8
    (ChangeSpec.witness6 (enc := enc) (C := Try.checked) false ⟨#[], #[.slice none 0 0], []⟩ 8 (by kernel_rfl) (by kernel_rfl) (by kernel_rfl) (by kernel_rfl)) ?_
  intro W base args ds gs before hval0 hW hcnd hsz _
  have hval : ∀ (j : Nat) t v, Try.f8.params[j]? = some t → args[j]? = some v → Value.okWide Try.prog W .any base t v := hval0
  have hW' := hW
  obtain ⟨p, q, hA0, hV, rfl, hfz, hnd⟩ := hW
  have hA : DataW.TrodAll enc Try.prog W 0 (fun _ => true) true Try.f8.params.toList args.toList ds p := hA0
  rw [Try.params8] at hA hval hsz
  obtain ⟨v0, vs0, d0, ds0, p0, q0, hargs, rfl, rfl, h0, r0⟩ := trodAll_cons hA
  obtain ⟨rfl, rfl, rfl⟩ := trodAll_nil r0
  obtain rfl : args = #[v0] := by cases args; simp_all
  obtain ⟨rfl, rfl⟩ := trodVars_none hV
  have hw0 : (d0.weights Try.prog 22).all (· ≤ reachBytes) = true := by
    rw [List.all_eq_true] at hsz ⊢
    exact fun x hx => hsz x (List.mem_append_left _ hx)
  obtain ⟨l, hl1, hl2, hl3⟩ := open_list (hval 0 22 v0 rfl rfl) h0 hw0
  refine (walk v0 l W hl1 hl2 hl3).mono fun e W' ⟨he, hg⟩ => ?_
  subst he
  exact ⟨_, rfl, post_law (s := Rows.layoutChecksSpec) hW' (by kernel_rfl) rfl (by decide +kernel) rfl rfl rfl hg⟩

theorem over : Rows.layoutChecksRow.holds Try.pinned (OpenSpec.ofChange Rows.layoutChecksSpec) :=
  OpenClaim.holds_of_wide 8 Try.f8 rfl rfl rfl rfl rfl rfl rfl ⟨rfl, rfl, rfl, rfl, rfl⟩ rfl rfl rfl rfl rfl (by kernel_rfl) Try.func8 LayoutChecksF.all
    (of_decide_eq_true (by kernel_rfl)) (by unfold Func.isWrapper; first | (rw [if_pos (by decide +kernel)]; kernel_rfl) | (rw [if_neg (by decide +kernel)]; exact ⟨rfl, rfl⟩))
    (fun os started H enc _ => lifted os started H enc)

end LayoutChecksA

theorem layoutChecks_holds : Rows.LayoutChecksSaid := LayoutChecksA.over
#print axioms layoutChecks_holds
end Go.Proofs.Ytpehceccnjdfeaa
end
