import Derived.Test.YtpehceccnjdfeaaG00
import Derived.Test.YtpehceccnjdfeaaG02
import Derived.Test.YtpehceccnjdfeaaH1
import Derived.Test.YtpehceccnjdfeaaF3
import Derived.Test.YtpehceccnjdfeaaJ6

section
/- The closed facts of LayoutSplits's row, each by itself; joined. -/
namespace Go.Proofs.Ytpehceccnjdfeaa
namespace LayoutSplitsF

theorem wf : OpenClaim.wf (OpenSpec.ofChange Rows.layoutSplitsSpec) Rows.layoutSplitsRow = true := by kernel_rfl
theorem params : (Try.f4.params.all fun x => Try.prog.readableRec x) = true := by kernel_rfl
theorem tie : namedTie Try.prog Rows.layoutSplitsRow.named Rows.layoutSplitsSpec.vars = true := by kernel_rfl
theorem stops : (Rows.layoutSplitsRow.stops == []) = true := by kernel_rfl
theorem knobs : (Rows.layoutSplitsRow.knobs == []) = true := by kernel_rfl
theorem inplace : (Rows.layoutSplitsRow.inPlace == Try.prog.inPlace 4) = true := by kernel_rfl
theorem unfollowed : (Rows.layoutSplitsRow.unfollowed == Try.prog.unfollowed 4) = true := by kernel_rfl
theorem recurses : (Rows.layoutSplitsRow.recurses == Try.prog.recurses 4) = true := by kernel_rfl
theorem named : (Rows.layoutSplitsRow.named == Try.prog.varsNamed 4) = true := by kernel_rfl
theorem maps : (Rows.layoutSplitsRow.maps == (Try.f4.params.toList ++ DataSpec.varTypes Try.prog Rows.layoutSplitsSpec.plain).any fun x => Try.prog.mapsRec x) = true := by kernel_rfl
theorem ifaces : (Rows.layoutSplitsRow.ifaces == (Try.f4.params.toList ++ DataSpec.varTypes Try.prog Rows.layoutSplitsSpec.plain).any fun x => Try.prog.ifacesRec x) = true := by kernel_rfl
theorem mapsout : (Rows.layoutSplitsRow.mapsOut == Try.prog.mapsAmong Try.f4.resultTypes.toList) = true := by kernel_rfl
theorem loops : (Rows.layoutSplitsRow.loops == (Try.f4.params.toList ++ DataSpec.varTypes Try.prog Rows.layoutSplitsSpec.plain).any fun x => Try.prog.loopsFrom x) = true := by kernel_rfl
theorem widekeys : (Rows.layoutSplitsRow.wideKeys == (Try.f4.params.toList ++ DataSpec.varTypes Try.prog Rows.layoutSplitsSpec.plain ++ Try.f4.resultTypes.toList).any fun x => Try.prog.wideKeysFrom x) = true := by kernel_rfl
theorem vars : (Rows.layoutSplitsSpec.vars.all fun x => Try.prog.varReadable x) = true := by kernel_rfl
theorem results : (Try.f4.resultTypes.all fun t => Try.prog.readableRec t && decide (t < Try.prog.types.size)) = true := by kernel_rfl
theorem ifacesout : (Rows.layoutSplitsRow.ifacesOut == Try.f4.resultTypes.toList.any fun x => Try.prog.ifacesRec x) = true := by kernel_rfl
theorem loopsout : (Rows.layoutSplitsRow.loopsOut == Try.f4.resultTypes.toList.any fun x => Try.prog.loopsFrom x) = true := by kernel_rfl
theorem short : Rows.layoutSplitsRow.shortTexts.isNone = true := by kernel_rfl
theorem kinds : (Rows.layoutSplitsRow.kinds == if Rows.layoutSplitsRow.domain.isEmpty = true then [] else List.map (fun t => match Try.prog.underlying t with | some (TypeDesc.int k) => some k | _ => none) Try.f4.params.toList) = true := by kernel_rfl
theorem pinned : (Rows.layoutSplitsRow.pinned == Rows.layoutSplitsRow.pinnedBy) = true := by kernel_rfl
theorem veiled : (Rows.layoutSplitsRow.veiled == (Try.f4.params.toList ++ DataSpec.varTypes Try.prog Rows.layoutSplitsSpec.plain ++ Try.f4.resultTypes.toList).any fun x => Try.prog.veiledRec x) = true := by kernel_rfl
theorem veils : Rows.layoutSplitsRow.veiledFits Try.prog Try.f4.params.toList (Try.f4.params.toList ++ DataSpec.varTypes Try.prog Rows.layoutSplitsSpec.plain ++ Try.f4.resultTypes.toList) = true := by kernel_rfl

set_option maxRecDepth 100000 in
theorem all : joinedFacts Try.prog 4 Try.f4 Rows.layoutSplitsSpec Rows.layoutSplitsRow = true := by
  unfold joinedFacts
  exact (and_tr (and_tr (and_tr (and_tr (and_tr (and_tr (and_tr (and_tr (and_tr (and_tr (and_tr (and_tr (and_tr (and_tr (and_tr (and_tr (and_tr (and_tr (and_tr (and_tr (and_tr (and_tr (and_tr (and_tr (and_tr (and_tr (and_tr (and_tr (and_tr (and_tr (and_tr wf whole_laid) whole_maps) params) tie) stops) whole_stops) knobs) whole_knobs) inplace) unfollowed) recurses) named) maps) ifaces) mapsout) loops) widekeys) vars) results) ifacesout) loopsout) whole_keys) short) whole_heard) whole_enter) whole_lift) whole_make) kinds) pinned) veiled) veils)

end LayoutSplitsF
end Go.Proofs.Ytpehceccnjdfeaa
end

section
/- Of every list and every cut: Split answers as the document says: its list cell by cell, and its error; the list that was handed in stands as it stood. No condition. -/
namespace Go.Proofs.Ytpehceccnjdfeaa
open Go.ChangeShapes Go.WideShapes Go.ChangeAt Go.RowKit

theorem splitF_len (l : List Cl) (pane kind size : Int) (before : Bool) (id : Int) : (splitF l pane kind size before id).1.length ≤ 1000 := by
  unfold splitF
  cases hr : readF l with
  | none => simp
  | some r =>
    simp only []
    have RI := read_is hr
    by_cases hk : kindB kind = false
    · rw [if_pos hk]; simp
    · rw [if_neg hk]
      have hk23 := (kindB_iff kind).1 (by simpa using hk)
      cases hq : r.find pane with
      | none => simp
      | some q =>
        simp only []
        by_cases hf : freshF r.ids id ≠ 0
        · rw [if_pos hf]; simp
        · rw [if_neg hf]
          obtain ⟨W, H, kids, hat⟩ := find_at pane q r hq
          rw [hat]
          simp only []
          by_cases hs : ext kind W H < 3
          · rw [show (if ext kind (R.mk 1 W H pane kids).w (R.mk 1 W H pane kids).h < 3 then (([], 44) : List Cl × Int) else _) = ([], 44) from if_pos hs]; simp
          · rw [show (if ext kind (R.mk 1 W H pane kids).w (R.mk 1 W H pane kids).h < 3 then (([], 44) : List Cl × Int) else _) = _ from if_neg hs]
            have hWH := R.at_bd q r _ hat RI.bd
            simp only [R.Bd] at hWH
            have hN := splitN_bd (size := size) (s := ext kind W H) (by omega)
            have hs1000 : ext kind W H ≤ 1000 := by unfold ext; split <;> omega
            have hcp := cutPair_bd (before := before) (id := id) (p := pane) hk23 (by omega) (by omega) hN
            have := cutAt_ok kind (cutPair kind (splitN (ext kind W H) size) before id W H pane) W H (by omega) (by omega) hcp.1 hcp.2 q r (RI.bd.mono (by omega) (by omega))
            have hlen := RI.len
            have hcn := RI.cnt
            show (R.lay 0 0 0 (R.cutAt kind (cutPair kind (splitN (ext kind W H) size) before id W H pane) W H r q)).length ≤ 1000
            rw [R.lay_length]; omega

theorem cells32 : Try.prog.cellsOf 32 = 5 := by kernel_rfl
theorem cells4 : Try.prog.cellsOf 4 = 1 := by kernel_rfl

theorem list5 {α : Type} : ∀ {l : List α}, l.length = 5 → ∃ a0 a1 a2 a3 a4, l = [a0, a1, a2, a3, a4]
  | [a0, a1, a2, a3, a4], _ => ⟨a0, a1, a2, a3, a4, rfl⟩

set_option maxRecDepth 100000 in
theorem open_cut {H : Type} {enc : TypeId × Value → H} {w W' : World} {base b0 : Nat} {spare : Nat → Bool} {held : Bool} {v : Value} {d : DataW H} {p : List MemPlace}
    (hv : Value.okWide Try.prog W' .any b0 32 v) (h : DataW.Trod enc Try.prog w base spare held 32 v d p) : ∃ (a b c : Int) (t : Bool) (i : Int), v = .agg #[.int .i64 a, .int .i64 b, .int .i64 c, .bool t, .int .i64 i] := by
  obtain ⟨cs0, rfl, _⟩ := okWide_struct Try.underlying32 hv
  obtain ⟨fuel, hf0⟩ := h
  simp only [Value.cells] at hf0
  obtain ⟨xs, m, _, _, hl, hlen, hf⟩ := DataW.trod_struct Try.underlying32 hf0
  have hl5 : cs0.toList.length = 5 := hl.trans cells32
  clear hl hf0
  obtain ⟨a0, a1, a2, a3, a4, he⟩ := list5 hl5
  rw [he] at hf
  obtain ⟨y0, z0⟩ : ∃ y, xs[0]? = some y := ⟨xs[0]'(by rw [hlen]; decide), by simp⟩
  have g0 := (hf 0 ⟨"Pane", 3, 0, false, "", "", 0⟩ rfl).trans z0
  obtain ⟨y1, z1⟩ : ∃ y, xs[1]? = some y := ⟨xs[1]'(by rw [hlen]; decide), by simp⟩
  have g1 := (hf 1 ⟨"Kind", 3, 1, false, "", "", 8⟩ rfl).trans z1
  obtain ⟨y2, z2⟩ : ∃ y, xs[2]? = some y := ⟨xs[2]'(by rw [hlen]; decide), by simp⟩
  have g2 := (hf 2 ⟨"Size", 3, 2, false, "", "", 16⟩ rfl).trans z2
  obtain ⟨y3, z3⟩ : ∃ y, xs[3]? = some y := ⟨xs[3]'(by rw [hlen]; decide), by simp⟩
  have g3 := (hf 3 ⟨"Before", 4, 3, false, "", "", 24⟩ rfl).trans z3
  obtain ⟨y4, z4⟩ : ∃ y, xs[4]? = some y := ⟨xs[4]'(by rw [hlen]; decide), by simp⟩
  have g4 := (hf 4 ⟨"Id", 3, 4, false, "", "", 32⟩ rfl).trans z4
  simp only [cells3, cells4, List.drop_zero, List.drop_succ_cons, List.take_succ_cons, List.take_zero] at g0 g1 g2 g3 g4
  obtain ⟨n0, e0, _⟩ := DataW.trod_int Try.underlying3 g0
  obtain ⟨n1, e1, _⟩ := DataW.trod_int Try.underlying3 g1
  obtain ⟨n2, e2, _⟩ := DataW.trod_int Try.underlying3 g2
  obtain ⟨n3, e3, _⟩ := DataW.trod_bool Try.underlying4 g3
  obtain ⟨n4, e4, _⟩ := DataW.trod_int Try.underlying3 g4
  simp only [List.cons.injEq, and_true] at e0 e1 e2 e3 e4
  subst e0 e1 e2 e3 e4
  refine ⟨n0, n1, n2, n3, n4, ?_⟩
  congr 1
  apply Array.ext'
  simpa using he

namespace LayoutSplitsA

set_option maxRecDepth 100000 in
theorem walk (v : Value) (l : List Cl) (pane kind size : Int) (before : Bool) (id : Int) (w : World) (h : Reads w v l) (hl : l.length * 56 + 168 ≤ 140737488355328) (hz : l = [] → v = .slice none 0 0 ∨ ∃ ad c, v = .slice (some ad) 0 c) :
    Calls Try.prog 4 #[v, .agg #[.int .i64 pane, .int .i64 kind, .int .i64 size, .bool before, .int .i64 id]] w fun e w' => e = .returned (.bool true) ∧ Below w.heap.size w w' := by
  have ht0 : Reads (w.alloc (.cells #[.int .i64 pane, .int .i64 kind, .int .i64 size, .bool before, .int .i64 id] 32)) v l := h.below ((Below.refl _ _).alloc (Nat.le_refl _) _)
  have HT := Lib.hid (twin_any v l _ ht0 hl hz)
  have HR := Lib.hid h
  have hb1 : Below w.heap.size w (w.alloc (.cells #[.int .i64 pane, .int .i64 kind, .int .i64 size, .bool before, .int .i64 id] 32)) := (Below.refl _ _).alloc (Nat.le_refl _) _
  have hx1 := heap_alloc_new w (.cells #[.int .i64 pane, .int .i64 kind, .int .i64 size, .bool before, .int .i64 id] 32)
  have HB1 := Lib.hid hb1; have HX1 := Lib.hid hx1
  clear h hz ht0 hb1 hx1
  go_enter Try.func4, Try.ntmps4
  go_wp2_with fail
  refine HT.out.mono ?_
  rintro e w1 ⟨g, cap, rfl, ht, hb1⟩
  have hx := blk_below HX1.out hb1
  have k0 : w1.cell? ⟨w.heap.size, 0, none⟩ = some (.int .i64 pane) := blk_cell hx 0
  have k1 : w1.cell? ⟨w.heap.size, 1, none⟩ = some (.int .i64 kind) := blk_cell hx 1
  have k2 : w1.cell? ⟨w.heap.size, 2, none⟩ = some (.int .i64 size) := blk_cell hx 2
  have k3 : w1.cell? ⟨w.heap.size, 3, none⟩ = some (.bool before) := blk_cell hx 3
  have k4 : w1.cell? ⟨w.heap.size, 4, none⟩ = some (.int .i64 id) := blk_cell hx 4
  have h1 := split_any _ l pane kind size before id w1 (ht.reads (by omega))
  have h2 : ∀ W, Reads W v l → Calls Try.prog 27 #[v, .int .i64 pane, .int .i64 kind, .int .i64 size, .bool before, .int .i64 id] W fun e w' => ListPost W (splitF l pane kind size before id) e w' := fun W hW => rsplit_any v l pane kind size before id W hW
  have hlen := splitF_len l pane kind size before id
  generalize splitF l pane kind size before id = res at *
  obtain ⟨a, b⟩ := res
  have H1 := Lib.hid h1; have H2 := Lib.hid h2; have HTW := Lib.hid ht; have HB2 := Lib.hid (HB1.out.trans (hb1.mono HB1.out.size)); have HX2 := Lib.hid hx
  have HL := Lib.hid hlen
  clear h1 h2 ht hb1 hx hlen HT HX1 HB1
  go_wp2_with fail
  refine H1.out.mono ?_
  rintro e w2 ⟨v1, rfl, o1, hb2⟩
  have hb02 := HB2.out.trans (hb2.mono HB2.out.size)
  have hx := blk_below HX2.out hb2
  have k0 : w2.cell? ⟨w.heap.size, 0, none⟩ = some (.int .i64 pane) := blk_cell hx 0
  have k1 : w2.cell? ⟨w.heap.size, 1, none⟩ = some (.int .i64 kind) := blk_cell hx 1
  have k2 : w2.cell? ⟨w.heap.size, 2, none⟩ = some (.int .i64 size) := blk_cell hx 2
  have k3 : w2.cell? ⟨w.heap.size, 3, none⟩ = some (.bool before) := blk_cell hx 3
  have k4 : w2.cell? ⟨w.heap.size, 4, none⟩ = some (.int .i64 id) := blk_cell hx 4
  have h2 := H2.out w2 (HR.out.below hb02)
  have H2' := Lib.hid h2; have HTW2 := Lib.hid (HTW.out.below hb2); have HB3 := Lib.hid hb02
  have HR1 := Lib.hid (o1.reads (by exact Nat.le_trans HL.out (by omega)))
  clear h2 hb2 hb02 HTW HB2 H1 H2 o1 hx
  go_wp2_with fail
  refine H2'.out.mono ?_
  rintro e w3 ⟨v2, rfl, o2, hb3⟩
  have H3 := Lib.hid (works_any w3)
  have HTW3 := Lib.hid (HTW2.out.below hb3); have HB4 := Lib.hid (HB3.out.trans (hb3.mono HB3.out.size))
  have HR1' := Lib.hid (HR1.out.below hb3)
  have HR2 := Lib.hid (o2.reads (by exact Nat.le_trans HL.out (by omega)))
  clear hb3 o2 HTW2 HB3 HR1 H2'
  go_wp2_with fail
  refine H3.out.mono ?_
  rintro e w4 ⟨rfl, hb4⟩
  have hb04 := HB4.out.trans (hb4.mono HB4.out.size)
  have hs := same_any v1 v2 a a w4 (HR1'.out.below hb4) (HR2.out.below hb4)
  have HS := Lib.hid hs; have HTW4 := Lib.hid (HTW3.out.below hb4); have HB5 := Lib.hid hb04
  clear hb4 hb04 HTW3 HB4 H3 hs HR1' HR2
  go_wp2_with fail
  refine HS.out.mono ?_
  rintro e w5 ⟨rfl, q, rfl⟩
  simp only [decide_true]
  have hb05 := below_drewN HB5.out q
  have hbq : Below w4.heap.size w4 (w4.drewN q) := below_drewN (Below.refl _ _) q
  have h4 := kept_any v l _ g cap _ (HR.out.below hb05) hl (HTW4.out.below hbq)
  have H4 := Lib.hid h4; have HB6 := Lib.hid hb05
  clear h4 hb05 hbq HTW4 HS
  go_wp2_with fail
  refine H4.out.mono ?_
  rintro e w6 ⟨rfl, q2, rfl⟩
  go_wp2_with fail
  go_ret
  exact ⟨by simp, below_drewN HB5.out _⟩

set_option maxRecDepth 100000 in
theorem lifted (os : Os) (started : os.Started) (H : Type) (enc : TypeId × Value → H) :
    ReturnsInHanded {} Try.checked os 4 .any (Rows.layoutSplitsSpec.pre6 enc Try.prog Try.f4 Rows.layoutSplitsRow.domain false) (Rows.layoutSplitsSpec.post enc Try.prog Try.f4 false true false false) := by
  refine returnsInHanded_of_change_sized (C := Try.checked) own_knob started (by kernel_rfl) Try.func4
    (ChangeSpec.witness6 (enc := enc) (C := Try.checked) false ⟨#[], #[.slice none 0 0, .agg #[.int .i64 0, .int .i64 0, .int .i64 0, .bool false, .int .i64 0]], []⟩ 8 (by kernel_rfl) (by kernel_rfl) (by kernel_rfl) (by kernel_rfl)) ?_
  intro W base args ds gs before hval0 hW hcnd hsz _
  have hval : ∀ (j : Nat) t v, Try.f4.params[j]? = some t → args[j]? = some v → Value.okWide Try.prog W .any base t v := hval0
  have hW' := hW
  obtain ⟨p, q, hA0, hV, rfl, hfz, hnd⟩ := hW
  have hA : DataW.TrodAll enc Try.prog W 0 (fun _ => true) true Try.f4.params.toList args.toList ds p := hA0
  rw [Try.params4] at hA hval hsz
  obtain ⟨v0, vs0, d0, ds0, p0, q0, hargs, rfl, rfl, h0, r0⟩ := trodAll_cons hA
  obtain ⟨v1, vs1, d1, ds1, p1, q1, rfl, rfl, rfl, h1, r1⟩ := trodAll_cons r0
  obtain ⟨rfl, rfl, rfl⟩ := trodAll_nil r1
  obtain rfl : args = #[v0, v1] := by cases args; simp_all
  obtain ⟨rfl, rfl⟩ := trodVars_none hV
  obtain ⟨a0, a1, a2, a3, a4, rfl⟩ := open_cut (hval 1 32 v1 rfl rfl) h1
  have hw0 : (d0.weights Try.prog 22).all (· ≤ reachBytes) = true := by
    rw [List.all_eq_true] at hsz ⊢
    exact fun x hx => hsz x (List.mem_append_left _ hx)
  obtain ⟨l, hl1, hl2, hl3⟩ := open_list (hval 0 22 v0 rfl rfl) h0 hw0
  refine (walk v0 l a0 a1 a2 a3 a4 W hl1 hl2 hl3).mono fun e W' ⟨he, hg⟩ => ?_
  subst he
  exact ⟨_, rfl, post_law (s := Rows.layoutSplitsSpec) hW' (by kernel_rfl) rfl (by decide +kernel) rfl rfl rfl hg⟩

theorem over : Rows.layoutSplitsRow.holds Try.pinned (OpenSpec.ofChange Rows.layoutSplitsSpec) :=
  OpenClaim.holds_of_wide 4 Try.f4 rfl rfl rfl rfl rfl rfl rfl ⟨rfl, rfl, rfl, rfl, rfl⟩ rfl rfl rfl rfl rfl (by kernel_rfl) Try.func4 LayoutSplitsF.all
    (of_decide_eq_true (by kernel_rfl)) (by unfold Func.isWrapper; first | (rw [if_pos (by decide +kernel)]; kernel_rfl) | (rw [if_neg (by decide +kernel)]; exact ⟨rfl, rfl⟩))
    (fun os started H enc _ => lifted os started H enc)

end LayoutSplitsA

theorem layoutSplits_holds : Rows.LayoutSplitsSaid := LayoutSplitsA.over
#print axioms layoutSplits_holds
end Go.Proofs.Ytpehceccnjdfeaa
end
