/- Of every list, every pane and every number: Next answers as the document says: the pane and the error; the list that was handed in stands as it stood. No condition. -/
import Derived.Test.YtpehceccnjdfeaaG02
import Derived.Test.YtpehceccnjdfeaaG10
import Derived.Test.YtpehceccnjdfeaaH1
import Derived.Test.YtpehceccnjdfeaaH2
import Derived.Test.YtpehceccnjdfeaaF3
namespace Go.Proofs.Ytpehceccnjdfeaa
open Go.ChangeShapes Go.WideShapes Go.ChangeAt Go.RowKit
namespace LayoutNextsA

set_option maxRecDepth 100000 in
theorem walk (v : Value) (l : List Cl) (pane n : Int) (w : World) (h : Reads w v l) (hl : l.length * 56 + 168 ≤ 140737488355328) (hz : l = [] → v = .slice none 0 0 ∨ ∃ ad c, v = .slice (some ad) 0 c) :
    Calls Try.prog 5 #[v, .int .i64 pane, .int .i64 n] w fun e w' => e = .returned (.bool true) ∧ Below w.heap.size w w' := by
  have HT := Lib.hid (twin_any v l w h hl hz)
  have HR := Lib.hid h
  clear h hz
  go_enter Try.func5, Try.ntmps5
  go_wp2_with fail
  refine HT.out.mono ?_
  rintro e w1 ⟨g, cap, rfl, ht, hb1⟩
  have h1 := next_any _ l pane n w1 (ht.reads (by omega))
  generalize hres : nextF l pane n = res at *
  obtain ⟨a, b⟩ := res
  have HRES := Lib.hid hres
  have H1 := Lib.hid h1; have HTW := Lib.hid ht; have HB1 := Lib.hid hb1
  clear h1 ht hb1 hres HT
  go_wp2_with fail
  refine H1.out.mono ?_
  rintro e w2 ⟨rfl, hb2⟩
  have hb02 := HB1.out.trans (hb2.mono HB1.out.size)
  have h2 := rnext_any v l pane n w2 (HR.out.below hb02)
  rw [HRES.out] at h2
  have H2 := Lib.hid h2; have HTW2 := Lib.hid (HTW.out.below hb2); have HB2 := Lib.hid hb02
  clear h2 hb2 hb02 HTW HB1 H1
  go_wp2_with fail
  refine H2.out.mono ?_
  rintro e w3 ⟨rfl, hb3⟩
  have H3 := Lib.hid (works_any w3)
  have HTW3 := Lib.hid (HTW2.out.below hb3); have HB3 := Lib.hid (HB2.out.trans (hb3.mono HB2.out.size))
  clear hb3 HTW2 HB2 H2
  go_wp2_with fail
  refine H3.out.mono ?_
  rintro e w4 ⟨rfl, hb4⟩
  have hb04 := HB3.out.trans (hb4.mono HB3.out.size)
  have h4 := kept_any v l _ g cap w4 (HR.out.below hb04) hl (HTW3.out.below hb4)
  have H4 := Lib.hid h4; have HB4 := Lib.hid hb04
  clear h4 hb4 hb04 HTW3 HB3 H3
  go_wp2_with fail
  refine H4.out.mono ?_
  rintro e w5 ⟨rfl, q, rfl⟩
  go_wp2_with fail
  go_ret
  exact ⟨by simp, below_drewN HB4.out q⟩

set_option maxRecDepth 100000 in
theorem lifted (os : Os) (started : os.Started) (H : Type) (enc : TypeId × Value → H) :
    ReturnsInHanded {} Try.checked os 5 .any (Rows.layoutNextsSpec.pre6 enc Try.prog Try.f5 Rows.layoutNextsRow.domain false) (Rows.layoutNextsSpec.post enc Try.prog Try.f5 false true false false) := by
  refine returnsInHanded_of_change_sized (C := Try.checked) own_knob started (by kernel_rfl) Try.func5
    (ChangeSpec.witness6 (enc := enc) (C := Try.checked) false ⟨#[], #[.slice none 0 0, .int .i64 0, .int .i64 0], []⟩ 8 (by kernel_rfl) (by kernel_rfl) (by kernel_rfl) (by kernel_rfl)) ?_
  intro W base args ds gs before hval0 hW hcnd hsz _
  have hval : ∀ (j : Nat) t v, Try.f5.params[j]? = some t → args[j]? = some v → Value.okWide Try.prog W .any base t v := hval0
  have hW' := hW
  obtain ⟨p, q, hA0, hV, rfl, hfz, hnd⟩ := hW
  have hA : DataW.TrodAll enc Try.prog W 0 (fun _ => true) true Try.f5.params.toList args.toList ds p := hA0
  rw [Try.params5] at hA hval hsz
  obtain ⟨v0, vs0, d0, ds0, p0, q0, hargs, rfl, rfl, h0, r0⟩ := trodAll_cons hA
  obtain ⟨v1, vs1, d1, ds1, p1, q1, rfl, rfl, rfl, h1, r1⟩ := trodAll_cons r0
  obtain ⟨v2, vs2, d2, ds2, p2, q2, rfl, rfl, rfl, h2, r2⟩ := trodAll_cons r1
  obtain ⟨rfl, rfl, rfl⟩ := trodAll_nil r2
  obtain rfl : args = #[v0, v1, v2] := by cases args; simp_all
  obtain ⟨rfl, rfl⟩ := trodVars_none hV
  obtain ⟨a1, rfl, rfl, rfl, w1⟩ := open_int Try.underlying3 (hval 1 3 v1 rfl rfl) h1
  obtain ⟨a2, rfl, rfl, rfl, w2⟩ := open_int Try.underlying3 (hval 2 3 v2 rfl rfl) h2
  have hw0 : (d0.weights Try.prog 22).all (· ≤ reachBytes) = true := by
    rw [List.all_eq_true] at hsz ⊢
    exact fun x hx => hsz x (List.mem_append_left _ hx)
  obtain ⟨l, hl1, hl2, hl3⟩ := open_list (hval 0 22 v0 rfl rfl) h0 hw0
  refine (walk v0 l a1 a2 W hl1 hl2 hl3).mono fun e W' ⟨he, hg⟩ => ?_
  subst he
  exact ⟨_, rfl, post_law (s := Rows.layoutNextsSpec) hW' (by kernel_rfl) rfl (by decide +kernel) rfl rfl rfl hg⟩

theorem over : Rows.layoutNextsRow.holds Try.pinned (OpenSpec.ofChange Rows.layoutNextsSpec) :=
  OpenClaim.holds_of_wide 5 Try.f5 rfl rfl rfl rfl rfl rfl rfl ⟨rfl, rfl, rfl, rfl, rfl⟩ rfl rfl rfl rfl rfl (by kernel_rfl) Try.func5 LayoutNextsF.all
    (of_decide_eq_true (by kernel_rfl)) (by unfold Func.isWrapper; first | (rw [if_pos (by decide +kernel)]; kernel_rfl) | (rw [if_neg (by decide +kernel)]; exact ⟨rfl, rfl⟩))
    (fun os started H enc _ => lifted os started H enc)

end LayoutNextsA

theorem layoutNexts_holds : Rows.LayoutNextsSaid := LayoutNextsA.over
#print axioms layoutNexts_holds
end Go.Proofs.Ytpehceccnjdfeaa
