import Derived.Test.YtpehceccnjdfeaaG00
import Derived.Test.YtpehceccnjdfeaaG02
import Derived.Test.YtpehceccnjdfeaaH1
import Derived.Test.YtpehceccnjdfeaaF3
import Derived.Test.YtpehceccnjdfeaaN5

section
/- The closed facts of LayoutBesides's row, each by itself; joined. -/
namespace Go.Proofs.Ytpehceccnjdfeaa
namespace LayoutBesidesF

theorem wf : OpenClaim.wf (OpenSpec.ofChange Rows.layoutBesidesSpec) Rows.layoutBesidesRow = true := by kernel_rfl
theorem params : (Try.f11.params.all fun x => Try.prog.readableRec x) = true := by kernel_rfl
theorem tie : namedTie Try.prog Rows.layoutBesidesRow.named Rows.layoutBesidesSpec.vars = true := by kernel_rfl
theorem stops : (Rows.layoutBesidesRow.stops == []) = true := by kernel_rfl
theorem knobs : (Rows.layoutBesidesRow.knobs == []) = true := by kernel_rfl
theorem inplace : (Rows.layoutBesidesRow.inPlace == Try.prog.inPlace 11) = true := by kernel_rfl
theorem unfollowed : (Rows.layoutBesidesRow.unfollowed == Try.prog.unfollowed 11) = true := by kernel_rfl
theorem recurses : (Rows.layoutBesidesRow.recurses == Try.prog.recurses 11) = true := by kernel_rfl
theorem named : (Rows.layoutBesidesRow.named == Try.prog.varsNamed 11) = true := by kernel_rfl
theorem maps : (Rows.layoutBesidesRow.maps == (Try.f11.params.toList ++ DataSpec.varTypes Try.prog Rows.layoutBesidesSpec.plain).any fun x => Try.prog.mapsRec x) = true := by kernel_rfl
theorem ifaces : (Rows.layoutBesidesRow.ifaces == (Try.f11.params.toList ++ DataSpec.varTypes Try.prog Rows.layoutBesidesSpec.plain).any fun x => Try.prog.ifacesRec x) = true := by kernel_rfl
theorem mapsout : (Rows.layoutBesidesRow.mapsOut == Try.prog.mapsAmong Try.f11.resultTypes.toList) = true := by kernel_rfl
theorem loops : (Rows.layoutBesidesRow.loops == (Try.f11.params.toList ++ DataSpec.varTypes Try.prog Rows.layoutBesidesSpec.plain).any fun x => Try.prog.loopsFrom x) = true := by kernel_rfl
theorem widekeys : (Rows.layoutBesidesRow.wideKeys == (Try.f11.params.toList ++ DataSpec.varTypes Try.prog Rows.layoutBesidesSpec.plain ++ Try.f11.resultTypes.toList).any fun x => Try.prog.wideKeysFrom x) = true := by kernel_rfl
theorem vars : (Rows.layoutBesidesSpec.vars.all fun x => Try.prog.varReadable x) = true := by kernel_rfl
theorem results : (Try.f11.resultTypes.all fun t => Try.prog.readableRec t && decide (t < Try.prog.types.size)) = true := by kernel_rfl
theorem ifacesout : (Rows.layoutBesidesRow.ifacesOut == Try.f11.resultTypes.toList.any fun x => Try.prog.ifacesRec x) = true := by kernel_rfl
theorem loopsout : (Rows.layoutBesidesRow.loopsOut == Try.f11.resultTypes.toList.any fun x => Try.prog.loopsFrom x) = true := by kernel_rfl
theorem short : Rows.layoutBesidesRow.shortTexts.isNone = true := by kernel_rfl
theorem kinds : (Rows.layoutBesidesRow.kinds == if Rows.layoutBesidesRow.domain.isEmpty = true then [] else List.map (fun t => match Try.prog.underlying t with | some (TypeDesc.int k) => some k | _ => none) Try.f11.params.toList) = true := by kernel_rfl
theorem pinned : (Rows.layoutBesidesRow.pinned == Rows.layoutBesidesRow.pinnedBy) = true := by kernel_rfl
theorem veiled : (Rows.layoutBesidesRow.veiled == (Try.f11.params.toList ++ DataSpec.varTypes Try.prog Rows.layoutBesidesSpec.plain ++ Try.f11.resultTypes.toList).any fun x => Try.prog.veiledRec x) = true := by kernel_rfl
theorem veils : Rows.layoutBesidesRow.veiledFits Try.prog Try.f11.params.toList (Try.f11.params.toList ++ DataSpec.varTypes Try.prog Rows.layoutBesidesSpec.plain ++ Try.f11.resultTypes.toList) = true := by kernel_rfl

set_option maxRecDepth 100000 in
theorem all : joinedFacts Try.prog 11 Try.f11 Rows.layoutBesidesSpec Rows.layoutBesidesRow = true := by
  unfold joinedFacts
  exact (and_tr (and_tr (and_tr (and_tr (and_tr (and_tr (and_tr (and_tr (and_tr (and_tr (and_tr (and_tr (and_tr (and_tr (and_tr (and_tr (and_tr (and_tr (and_tr (and_tr (and_tr (and_tr (and_tr (and_tr (and_tr (and_tr (and_tr (and_tr (and_tr (and_tr (and_tr wf whole_laid) whole_maps) params) tie) stops) whole_stops) knobs) whole_knobs) inplace) unfollowed) recurses) named) maps) ifaces) mapsout) loops) widekeys) vars) results) ifacesout) loopsout) whole_keys) short) whole_heard) whole_enter) whole_lift) whole_make) kinds) pinned) veiled) veils)

end LayoutBesidesF
end Go.Proofs.Ytpehceccnjdfeaa
end

section
/- Of every list, every pane and every side: Beside answers as the document says; the list that was handed in stands as it stood. No condition. -/
namespace Go.Proofs.Ytpehceccnjdfeaa
open Go.ChangeShapes Go.WideShapes Go.ChangeAt Go.RowKit

namespace LayoutBesidesA

set_option maxRecDepth 100000 in
theorem walk (v : Value) (l : List Cl) (x : Int) (y : Int) (w : World) (h : Reads w v l) (hl : l.length * 56 + 168 ≤ 140737488355328) (hz : l = [] → v = .slice none 0 0 ∨ ∃ ad c, v = .slice (some ad) 0 c) :
    Calls Try.prog 11 #[v, .int .i64 x, .int .i64 y] w fun e w' => e = .returned (.bool true) ∧ Below w.heap.size w w' := by
  have HT := Lib.hid (twin_any v l _ h hl hz)
  have HR := Lib.hid h
  clear h hz
  go_enter Try.func11, Try.ntmps11
  go_wp2_with fail
  refine HT.out.mono ?_
  rintro e w1 ⟨g, cap, rfl, ht, hb1⟩
  have h1 := beside_any _ l x y w1 (ht.reads (by omega))
  have h2 : ∀ W, Reads W v l → Calls Try.prog 49 #[v, .int .i64 x, .int .i64 y] W fun e w' => SeenPost W (besideF l x y) e w' := fun W hW => rbeside_any v l x y W hW
  generalize besideF l x y = res at *
  obtain ⟨a, b⟩ := res
  have H1 := Lib.hid h1; have H2 := Lib.hid h2; have HTW := Lib.hid ht; have HB2 := Lib.hid (hb1)
  clear h1 h2 ht hb1 HT
  go_wp2_with fail
  refine H1.out.mono ?_
  rintro e w2 ⟨rfl, hb2⟩
  have hb02 := HB2.out.trans (hb2.mono HB2.out.size)
  have h2 := H2.out w2 (HR.out.below hb02)
  have H2' := Lib.hid h2; have HTW2 := Lib.hid (HTW.out.below hb2); have HB3 := Lib.hid hb02
  clear h2 hb2 hb02 HTW HB2 H1 H2
  go_wp2_with fail
  refine H2'.out.mono ?_
  rintro e w3 ⟨rfl, hb3⟩
  have H3 := Lib.hid (works_any w3)
  have HTW3 := Lib.hid (HTW2.out.below hb3); have HB4 := Lib.hid (HB3.out.trans (hb3.mono HB3.out.size))
  clear hb3 HTW2 HB3 H2'
  go_wp2_with fail
  refine H3.out.mono ?_
  rintro e w4 ⟨rfl, hb4⟩
  have hb04 := HB4.out.trans (hb4.mono HB4.out.size)
  have h4 := kept_any v l _ g cap w4 (HR.out.below hb04) hl (HTW3.out.below hb4)
  have H4 := Lib.hid h4; have HB5 := Lib.hid hb04
  clear h4 hb4 hb04 HTW3 HB4 H3
  go_wp2_with fail
  refine H4.out.mono ?_
  rintro e w6 ⟨rfl, q2, rfl⟩
  go_wp2_with fail
  go_ret
  exact ⟨by simp, below_drewN HB5.out _⟩

set_option maxRecDepth 100000 in
theorem lifted (os : Os) (started : os.Started) (H : Type) (enc : TypeId × Value → H) :
    ReturnsInHanded {} Try.checked os 11 .any (Rows.layoutBesidesSpec.pre6 enc Try.prog Try.f11 Rows.layoutBesidesRow.domain false) (Rows.layoutBesidesSpec.post enc Try.prog Try.f11 false true false false) := by
  refine returnsInHanded_of_change_sized (C := Try.checked) own_knob started (by kernel_rfl) Try.func11
    (ChangeSpec.witness6 (enc := enc) (C := Try.checked) false ⟨#[], #[.slice none 0 0, .int .i64 0, .int .i64 0], []⟩ 8 (by kernel_rfl) (by kernel_rfl) (by kernel_rfl) (by kernel_rfl)) ?_
  intro W base args ds gs before hval0 hW hcnd hsz _
  have hval : ∀ (j : Nat) t v, Try.f11.params[j]? = some t → args[j]? = some v → Value.okWide Try.prog W .any base t v := hval0
  have hW' := hW
  obtain ⟨p, q, hA0, hV, rfl, hfz, hnd⟩ := hW
  have hA : DataW.TrodAll enc Try.prog W 0 (fun _ => true) true Try.f11.params.toList args.toList ds p := hA0
  rw [Try.params11] at hA hval hsz
  obtain ⟨v0, vs0, d0, ds0, p0, q0, hargs, rfl, rfl, h0, r0⟩ := trodAll_cons hA
  obtain ⟨v1, vs1, d1, ds1, p1, q1, rfl, rfl, rfl, h1, r1⟩ := trodAll_cons r0
  obtain ⟨v2, vs2, d2, ds2, p2, q2, rfl, rfl, rfl, h2, r2⟩ := trodAll_cons r1
  obtain ⟨rfl, rfl, rfl⟩ := trodAll_nil r2
  obtain rfl : args = #[v0, v1, v2] := by cases args; simp_all
  obtain ⟨rfl, rfl⟩ := trodVars_none hV
  obtain ⟨a1, rfl, rfl, rfl, w1⟩ := open_int Try.underlying3 (hval 1 3 v1 rfl rfl) h1
  obtain ⟨a2, rfl, rfl, rfl, w2⟩ := open_int Try.underlying3 (hval 2 3 v2 rfl rfl) h2
  have hw0 : (d0.weights Try.prog 22).all (· ≤ reachBytes) = true := by
    rw [List.all_eq_true] at hsz ⊢
    exact fun x hx => hsz x (List.mem_append_left _ hx)
  obtain ⟨l, hl1, hl2, hl3⟩ := open_list (hval 0 22 v0 rfl rfl) h0 hw0
  refine (walk v0 l a1 a2 W hl1 hl2 hl3).mono fun e W' ⟨he, hg⟩ => ?_
  subst he
  exact ⟨_, rfl, post_law (s := Rows.layoutBesidesSpec) hW' (by kernel_rfl) rfl (by decide +kernel) rfl rfl rfl hg⟩

theorem over : Rows.layoutBesidesRow.holds Try.pinned (OpenSpec.ofChange Rows.layoutBesidesSpec) :=
  OpenClaim.holds_of_wide 11 Try.f11 rfl rfl rfl rfl rfl rfl rfl ⟨rfl, rfl, rfl, rfl, rfl⟩ rfl rfl rfl rfl rfl (by kernel_rfl) Try.func11 LayoutBesidesF.all
    (of_decide_eq_true (by kernel_rfl)) (by unfold Func.isWrapper; first | (rw [if_pos (by decide +kernel)]; kernel_rfl) | (rw [if_neg (by decide +kernel)]; exact ⟨rfl, rfl⟩))
    (fun os started H enc _ => lifted os started H enc)

end LayoutBesidesA

theorem layoutBesides_holds : Rows.LayoutBesidesSaid := LayoutBesidesA.over
#print axioms layoutBesides_holds
end Go.Proofs.Ytpehceccnjdfeaa
end
