import Derived.Test.YtpehceccnjdfeaaG00
import Derived.Test.YtpehceccnjdfeaaG02
import Derived.Test.YtpehceccnjdfeaaH1
import Derived.Test.YtpehceccnjdfeaaF3
import Derived.Test.YtpehceccnjdfeaaK1
import Derived.Test.YtpehceccnjdfeaaK3

section
/- The closed facts of LayoutLooks's row, each by itself; joined. -/
namespace Go.Proofs.Ytpehceccnjdfeaa
namespace LayoutLooksF

theorem wf : OpenClaim.wf (OpenSpec.ofChange Rows.layoutLooksSpec) Rows.layoutLooksRow = true := by kernel_rfl
theorem params : (Try.f6.params.all fun x => Try.prog.readableRec x) = true := by kernel_rfl
theorem tie : namedTie Try.prog Rows.layoutLooksRow.named Rows.layoutLooksSpec.vars = true := by kernel_rfl
theorem stops : (Rows.layoutLooksRow.stops == []) = true := by kernel_rfl
theorem knobs : (Rows.layoutLooksRow.knobs == []) = true := by kernel_rfl
theorem inplace : (Rows.layoutLooksRow.inPlace == Try.prog.inPlace 6) = true := by kernel_rfl
theorem unfollowed : (Rows.layoutLooksRow.unfollowed == Try.prog.unfollowed 6) = true := by kernel_rfl
theorem recurses : (Rows.layoutLooksRow.recurses == Try.prog.recurses 6) = true := by kernel_rfl
theorem named : (Rows.layoutLooksRow.named == Try.prog.varsNamed 6) = true := by kernel_rfl
theorem maps : (Rows.layoutLooksRow.maps == (Try.f6.params.toList ++ DataSpec.varTypes Try.prog Rows.layoutLooksSpec.plain).any fun x => Try.prog.mapsRec x) = true := by kernel_rfl
theorem ifaces : (Rows.layoutLooksRow.ifaces == (Try.f6.params.toList ++ DataSpec.varTypes Try.prog Rows.layoutLooksSpec.plain).any fun x => Try.prog.ifacesRec x) = true := by kernel_rfl
theorem mapsout : (Rows.layoutLooksRow.mapsOut == Try.prog.mapsAmong Try.f6.resultTypes.toList) = true := by kernel_rfl
theorem loops : (Rows.layoutLooksRow.loops == (Try.f6.params.toList ++ DataSpec.varTypes Try.prog Rows.layoutLooksSpec.plain).any fun x => Try.prog.loopsFrom x) = true := by kernel_rfl
theorem widekeys : (Rows.layoutLooksRow.wideKeys == (Try.f6.params.toList ++ DataSpec.varTypes Try.prog Rows.layoutLooksSpec.plain ++ Try.f6.resultTypes.toList).any fun x => Try.prog.wideKeysFrom x) = true := by kernel_rfl
theorem vars : (Rows.layoutLooksSpec.vars.all fun x => Try.prog.varReadable x) = true := by kernel_rfl
theorem results : (Try.f6.resultTypes.all fun t => Try.prog.readableRec t && decide (t < Try.prog.types.size)) = true := by kernel_rfl
theorem ifacesout : (Rows.layoutLooksRow.ifacesOut == Try.f6.resultTypes.toList.any fun x => Try.prog.ifacesRec x) = true := by kernel_rfl
theorem loopsout : (Rows.layoutLooksRow.loopsOut == Try.f6.resultTypes.toList.any fun x => Try.prog.loopsFrom x) = true := by kernel_rfl
theorem short : Rows.layoutLooksRow.shortTexts.isNone = true := by kernel_rfl
theorem kinds : (Rows.layoutLooksRow.kinds == if Rows.layoutLooksRow.domain.isEmpty = true then [] else List.map (fun t => match Try.prog.underlying t with | some (TypeDesc.int k) => some k | _ => none) Try.f6.params.toList) = true := by kernel_rfl
theorem pinned : (Rows.layoutLooksRow.pinned == Rows.layoutLooksRow.pinnedBy) = true := by kernel_rfl
theorem veiled : (Rows.layoutLooksRow.veiled == (Try.f6.params.toList ++ DataSpec.varTypes Try.prog Rows.layoutLooksSpec.plain ++ Try.f6.resultTypes.toList).any fun x => Try.prog.veiledRec x) = true := by kernel_rfl
theorem veils : Rows.layoutLooksRow.veiledFits Try.prog Try.f6.params.toList (Try.f6.params.toList ++ DataSpec.varTypes Try.prog Rows.layoutLooksSpec.plain ++ Try.f6.resultTypes.toList) = true := by kernel_rfl

set_option maxRecDepth 100000 in
theorem all : joinedFacts Try.prog 6 Try.f6 Rows.layoutLooksSpec Rows.layoutLooksRow = true := by
  unfold joinedFacts
  exact (and_tr (and_tr (and_tr (and_tr (and_tr (and_tr (and_tr (and_tr (and_tr (and_tr (and_tr (and_tr (and_tr (and_tr (and_tr (and_tr (and_tr (and_tr (and_tr (and_tr (and_tr (and_tr (and_tr (and_tr (and_tr (and_tr (and_tr (and_tr (and_tr (and_tr (and_tr wf whole_laid) whole_maps) params) tie) stops) whole_stops) knobs) whole_knobs) inplace) unfollowed) recurses) named) maps) ifaces) mapsout) loops) widekeys) vars) results) ifacesout) loopsout) whole_keys) short) whole_heard) whole_enter) whole_lift) whole_make) kinds) pinned) veiled) veils)

end LayoutLooksF
end Go.Proofs.Ytpehceccnjdfeaa
end

section
/- Of every list, every pane and every place: Find and At answer as the document says; the list that was handed in stands as it stood. No condition. -/
namespace Go.Proofs.Ytpehceccnjdfeaa
open Go.ChangeShapes Go.WideShapes Go.ChangeAt Go.RowKit

theorem trod_array2 {H : Type} {enc : TypeId × Value → H} {P : Program} {w : World} {base : Nat} {spare : Nat → Bool} {held : Bool} {t e : TypeId} {fuel : Nat} {c0 c1 : Value} {x : DataW H × List MemPlace} (ht : P.underlying t = some (.array 2 e)) (hce : P.cellsOf e = 1)
    (h : DataW.trod enc P w base spare held fuel t [c0, c1] = some x) :
    ∃ y0 y1 n, DataW.trod enc P w base spare held n e [c0] = some y0 ∧ DataW.trod enc P w base spare held n e [c1] = some y1 := by
  cases fuel with
  | zero => simp [DataW.trod] at h
  | succ n =>
    unfold DataW.trod at h
    rw [ht] at h
    have r2 : List.range 2 = [0, 1] := rfl
    simp [r2, hce] at h
    obtain ⟨_, h⟩ := h
    cases h0 : DataW.trod enc P w base spare held n e [c0] with
    | none => simp [h0] at h
    | some y0 =>
      cases h1 : DataW.trod enc P w base spare held n e [c1] with
      | none => simp [h0, h1] at h
      | some y1 => exact ⟨y0, y1, n, h0, h1⟩

theorem cells42 : Try.prog.cellsOf 42 = 2 := by kernel_rfl

theorem list2 {α : Type} : ∀ {l : List α}, l.length = 2 → ∃ a0 a1, l = [a0, a1]
  | [a0, a1], _ => ⟨a0, a1, rfl⟩

set_option maxRecDepth 100000 in
theorem open_spot {H : Type} {enc : TypeId × Value → H} {w W' : World} {base b0 : Nat} {spare : Nat → Bool} {held : Bool} {v : Value} {d : DataW H} {p : List MemPlace}
    (hv : Value.okWide Try.prog W' .any b0 42 v) (h : DataW.Trod enc Try.prog w base spare held 42 v d p) : ∃ (a b : Int), v = .agg #[.int .i64 a, .int .i64 b] := by
  simp only [Value.okWide, Try.underlying42] at hv
  obtain ⟨cs, rfl, hsz, _⟩ := hv
  rw [cells42] at hsz
  obtain ⟨c0, c1, hcs⟩ := list2 (l := cs.toList) (by simpa using hsz)
  obtain ⟨fuel, hf⟩ := h
  simp only [Value.cells] at hf
  rw [hcs] at hf
  obtain ⟨y0, y1, n, h0, h1⟩ := trod_array2 Try.underlying42 cells3 hf
  obtain ⟨n0, e0, _⟩ := DataW.trod_int Try.underlying3 h0
  obtain ⟨n1, e1, _⟩ := DataW.trod_int Try.underlying3 h1
  simp only [List.cons.injEq, and_true] at e0 e1
  subst e0 e1
  refine ⟨n0, n1, ?_⟩
  congr 1
  apply Array.ext'
  simpa using hcs

namespace LayoutLooksA

set_option maxRecDepth 100000 in
theorem walk (v : Value) (l : List Cl) (pane x y : Int) (w : World) (h : Reads w v l) (hl : l.length * 56 + 168 ≤ 140737488355328) (hz : l = [] → v = .slice none 0 0 ∨ ∃ ad c, v = .slice (some ad) 0 c) :
    Calls Try.prog 6 #[v, .int .i64 pane, .agg #[.int .i64 x, .int .i64 y]] w fun e w' => e = .returned (.bool true) ∧ Below w.heap.size w w' := by
  have hb1 : Below w.heap.size w (w.alloc (.cells #[.int .i64 x, .int .i64 y] 42)) := (Below.refl _ _).alloc (Nat.le_refl _) _
  have HT := Lib.hid (twin_any v l _ (h.below hb1) hl hz)
  have HR := Lib.hid h
  have HB1 := Lib.hid hb1; have HX1 := Lib.hid (heap_alloc_new w (.cells #[.int .i64 x, .int .i64 y] 42))
  clear h hz hb1
  go_enter Try.func6, Try.ntmps6
  go_wp2_with fail
  refine HT.out.mono ?_
  rintro e w1 ⟨g, cap, rfl, ht, hb1⟩
  have hx := blk_below HX1.out hb1
  have h1 := find_any _ l pane w1 (ht.reads (by omega))
  generalize hres : findF l pane = res at *
  obtain ⟨ra, rb⟩ := res
  have HRES := Lib.hid hres
  have H1 := Lib.hid h1; have HTW := Lib.hid ht; have HB2 := Lib.hid (HB1.out.trans (hb1.mono HB1.out.size)); have HX2 := Lib.hid hx
  clear h1 ht hb1 hx HT HX1 HB1 hres
  go_wp2_with fail
  refine H1.out.mono ?_
  rintro e w2 ⟨rfl, hb2⟩
  have hb02 := HB2.out.trans (hb2.mono HB2.out.size)
  have h2 := rfind_any v l pane w2 (HR.out.below hb02)
  rw [HRES.out] at h2
  have H2 := Lib.hid h2; have HTW2 := Lib.hid (HTW.out.below hb2); have HB3 := Lib.hid hb02; have HX3 := Lib.hid (blk_below HX2.out hb2)
  clear h2 hb2 hb02 HTW HB2 H1 HX2
  go_wp2_with fail
  refine H2.out.mono ?_
  rintro e w3 ⟨rfl, hb3⟩
  have hb03 := HB3.out.trans (hb3.mono HB3.out.size)
  have hx := blk_below HX3.out hb3
  have k0 : w3.cell? ⟨w.heap.size, 0, none⟩ = some (.int .i64 x) := blk_cell hx 0
  have k1 : w3.cell? ⟨w.heap.size, 1, none⟩ = some (.int .i64 y) := blk_cell hx 1
  have ht3 := HTW2.out.below hb3
  have h3 := at_any _ l x y w3 (ht3.reads (by omega))
  generalize hres2 : atF l x y = res2 at *
  obtain ⟨sa, sb⟩ := res2
  have HRES2 := Lib.hid hres2
  have H3 := Lib.hid h3; have HTW3 := Lib.hid ht3; have HB4 := Lib.hid hb03; have HX4 := Lib.hid hx
  clear h3 hb3 hb03 hx ht3 HTW2 HB3 H2 HX3 hres2
  go_wp2_with fail
  refine H3.out.mono ?_
  rintro e w4 ⟨rfl, hb4⟩
  have hb04 := HB4.out.trans (hb4.mono HB4.out.size)
  have hx := blk_below HX4.out hb4
  have k0 : w4.cell? ⟨w.heap.size, 0, none⟩ = some (.int .i64 x) := blk_cell hx 0
  have k1 : w4.cell? ⟨w.heap.size, 1, none⟩ = some (.int .i64 y) := blk_cell hx 1
  have h4 := rat_any v l x y w4 (HR.out.below hb04)
  rw [HRES2.out] at h4
  have H4 := Lib.hid h4; have HTW4 := Lib.hid (HTW3.out.below hb4); have HB5 := Lib.hid hb04
  clear h4 hb4 hb04 hx HTW3 HB4 H3 HX4
  go_wp2_with fail
  refine H4.out.mono ?_
  rintro e w5 ⟨rfl, hb5⟩
  have HB6 := Lib.hid (HB5.out.trans (hb5.mono HB5.out.size))
  have HTW5 := Lib.hid (HTW4.out.below hb5)
  have H5 := Lib.hid (works_any w5)
  clear hb5 HTW4 HB5 H4
  go_wp2_with fail
  refine H5.out.mono ?_
  rintro e w6 ⟨rfl, hb6⟩
  have hb06 := HB6.out.trans (hb6.mono HB6.out.size)
  have h6 := kept_any v l _ g cap w6 (HR.out.below hb06) hl (HTW5.out.below hb6)
  have H6 := Lib.hid h6; have HB7 := Lib.hid hb06
  clear h6 hb6 hb06 HTW5 HB6 H5
  go_wp2_with fail
  refine H6.out.mono ?_
  rintro e w7 ⟨rfl, q, rfl⟩
  go_wp2_with fail
  go_ret
  exact ⟨by simp, below_drewN HB7.out q⟩

set_option maxRecDepth 100000 in
theorem lifted (os : Os) (started : os.Started) (H : Type) (enc : TypeId × Value → H) :
    ReturnsInHanded {} Try.checked os 6 .any (Rows.layoutLooksSpec.pre6 enc Try.prog Try.f6 Rows.layoutLooksRow.domain false) (Rows.layoutLooksSpec.post enc Try.prog Try.f6 false true false false) := by
  refine returnsInHanded_of_change_sized (C := Try.checked) own_knob started (by kernel_rfl) Try.func6
    (ChangeSpec.witness6 (enc := enc) (C := Try.checked) false ⟨#[], #[.slice none 0 0, .int .i64 0, .agg #[.int .i64 0, .int .i64 0]], []⟩ 8 (by kernel_rfl) (by kernel_rfl) (by kernel_rfl) (by kernel_rfl)) ?_
  intro W base args ds gs before hval0 hW hcnd hsz _
  have hval : ∀ (j : Nat) t v, Try.f6.params[j]? = some t → args[j]? = some v → Value.okWide Try.prog W .any base t v := hval0
  have hW' := hW
  obtain ⟨p, q, hA0, hV, rfl, hfz, hnd⟩ := hW
  have hA : DataW.TrodAll enc Try.prog W 0 (fun _ => true) true Try.f6.params.toList args.toList ds p := hA0
  rw [Try.params6] at hA hval hsz
  obtain ⟨v0, vs0, d0, ds0, p0, q0, hargs, rfl, rfl, h0, r0⟩ := trodAll_cons hA
  obtain ⟨v1, vs1, d1, ds1, p1, q1, rfl, rfl, rfl, h1, r1⟩ := trodAll_cons r0
  obtain ⟨v2, vs2, d2, ds2, p2, q2, rfl, rfl, rfl, h2, r2⟩ := trodAll_cons r1
  obtain ⟨rfl, rfl, rfl⟩ := trodAll_nil r2
  obtain rfl : args = #[v0, v1, v2] := by cases args; simp_all
  obtain ⟨rfl, rfl⟩ := trodVars_none hV
  obtain ⟨a1, rfl, rfl, rfl, w1⟩ := open_int Try.underlying3 (hval 1 3 v1 rfl rfl) h1
  obtain ⟨a2, a3, rfl⟩ := open_spot (hval 2 42 v2 rfl rfl) h2
  have hw0 : (d0.weights Try.prog 22).all (· ≤ reachBytes) = true := by
    rw [List.all_eq_true] at hsz ⊢
    exact fun x hx => hsz x (List.mem_append_left _ hx)
  obtain ⟨l, hl1, hl2, hl3⟩ := open_list (hval 0 22 v0 rfl rfl) h0 hw0
  refine (walk v0 l a1 a2 a3 W hl1 hl2 hl3).mono fun e W' ⟨he, hg⟩ => ?_
  subst he
  exact ⟨_, rfl, post_law (s := Rows.layoutLooksSpec) hW' (by kernel_rfl) rfl (by decide +kernel) rfl rfl rfl hg⟩

theorem over : Rows.layoutLooksRow.holds Try.pinned (OpenSpec.ofChange Rows.layoutLooksSpec) :=
  OpenClaim.holds_of_wide 6 Try.f6 rfl rfl rfl rfl rfl rfl rfl ⟨rfl, rfl, rfl, rfl, rfl⟩ rfl rfl rfl rfl rfl (by kernel_rfl) Try.func6 LayoutLooksF.all
    (of_decide_eq_true (by kernel_rfl)) (by unfold Func.isWrapper; first | (rw [if_pos (by decide +kernel)]; kernel_rfl) | (rw [if_neg (by decide +kernel)]; exact ⟨rfl, rfl⟩))
    (fun os started H enc _ => lifted os started H enc)

end LayoutLooksA

theorem layoutLooks_holds : Rows.LayoutLooksSaid := LayoutLooksA.over
#print axioms layoutLooks_holds
end Go.Proofs.Ytpehceccnjdfeaa
end
