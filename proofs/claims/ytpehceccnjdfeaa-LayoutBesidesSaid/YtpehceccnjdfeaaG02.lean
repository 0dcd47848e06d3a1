/- What every law of this seat needs: its arguments opened; its row's end. -/
import Derived.Test.YtpehceccnjdfeaaG00
import Derived.Test.YtpehceccnjdfeaaF4
import Derived.Test.YtpehceccnjdfeaaA1
import Derived.WalkKit
import Derived.ProofKit
import Derived.OpenShut
import Derived.Deep.Slices
import Derived.ReadAgain
import Derived.SizedLaws
namespace Go.Proofs.Ytpehceccnjdfeaa
open Go.ChangeShapes Go.WideShapes Go.ChangeAt Go.RowKit Go.Deep

theorem own_knob : ownKnob Try.prog.godebug = none := by kernel_rfl
theorem cells53 : Try.prog.cellsOf 53 = 7 := by kernel_rfl
theorem cells3 : Try.prog.cellsOf 3 = 1 := by kernel_rfl
theorem bytes53 : Try.prog.bytesOf 53 = 56 := by kernel_rfl
theorem kids_all : Kids Try.prog (· < Try.prog.types.size) := kids_rows whole_laid whole_maps
theorem full_all : ∀ t e, t < Try.prog.types.size → Try.prog.underlying t = some (.slice e) → 0 < Try.prog.cellsOf e := slices_full_of Try.prog (by kernel_rfl)

section
variable {H : Type} {enc : TypeId × Value → H} {w : World} {base : Nat} {spare : Nat → Bool} {held : Bool}

theorem list7 {α : Type} : ∀ {l : List α}, l.length = 7 → ∃ a0 a1 a2 a3 a4 a5 a6, l = [a0, a1, a2, a3, a4, a5, a6]
  | [a0, a1, a2, a3, a4, a5, a6], _ => ⟨a0, a1, a2, a3, a4, a5, a6, rfl⟩

set_option maxRecDepth 100000 in
theorem cell_ints {n : Nat} {cs : List Value} {x : DataW H × List MemPlace} (h : DataW.trod enc Try.prog w base spare held n 53 cs = some x) : ∃ c : Cl, cs = c.vals := by
  obtain ⟨xs, m, _, _, hl, hlen, hf⟩ := DataW.trod_struct Try.underlying53 h
  have hl7 : cs.length = 7 := hl.trans cells53
  clear hl
  obtain ⟨a0, a1, a2, a3, a4, a5, a6, rfl⟩ := list7 hl7
  obtain ⟨y0, z0⟩ : ∃ y, xs[0]? = some y := ⟨xs[0]'(by rw [hlen]; decide), by simp⟩
  have g0 := (hf 0 ⟨"Depth", 3, 0, false, "", "", 0⟩ rfl).trans z0
  obtain ⟨y1, z1⟩ : ∃ y, xs[1]? = some y := ⟨xs[1]'(by rw [hlen]; decide), by simp⟩
  have g1 := (hf 1 ⟨"Kind", 3, 1, false, "", "", 8⟩ rfl).trans z1
  obtain ⟨y2, z2⟩ : ∃ y, xs[2]? = some y := ⟨xs[2]'(by rw [hlen]; decide), by simp⟩
  have g2 := (hf 2 ⟨"X", 3, 2, false, "", "", 16⟩ rfl).trans z2
  obtain ⟨y3, z3⟩ : ∃ y, xs[3]? = some y := ⟨xs[3]'(by rw [hlen]; decide), by simp⟩
  have g3 := (hf 3 ⟨"Y", 3, 3, false, "", "", 24⟩ rfl).trans z3
  obtain ⟨y4, z4⟩ : ∃ y, xs[4]? = some y := ⟨xs[4]'(by rw [hlen]; decide), by simp⟩
  have g4 := (hf 4 ⟨"W", 3, 4, false, "", "", 32⟩ rfl).trans z4
  obtain ⟨y5, z5⟩ : ∃ y, xs[5]? = some y := ⟨xs[5]'(by rw [hlen]; decide), by simp⟩
  have g5 := (hf 5 ⟨"H", 3, 5, false, "", "", 40⟩ rfl).trans z5
  obtain ⟨y6, z6⟩ : ∃ y, xs[6]? = some y := ⟨xs[6]'(by rw [hlen]; decide), by simp⟩
  have g6 := (hf 6 ⟨"Pane", 3, 6, false, "", "", 48⟩ rfl).trans z6
  simp only [cells3, List.drop_zero, List.drop_succ_cons, List.take_succ_cons, List.take_zero] at g0 g1 g2 g3 g4 g5 g6
  obtain ⟨n0, e0, _⟩ := DataW.trod_int Try.underlying3 g0
  obtain ⟨n1, e1, _⟩ := DataW.trod_int Try.underlying3 g1
  obtain ⟨n2, e2, _⟩ := DataW.trod_int Try.underlying3 g2
  obtain ⟨n3, e3, _⟩ := DataW.trod_int Try.underlying3 g3
  obtain ⟨n4, e4, _⟩ := DataW.trod_int Try.underlying3 g4
  obtain ⟨n5, e5, _⟩ := DataW.trod_int Try.underlying3 g5
  obtain ⟨n6, e6, _⟩ := DataW.trod_int Try.underlying3 g6
  simp only [List.cons.injEq, and_true] at e0 e1 e2 e3 e4 e5 e6
  subst e0 e1 e2 e3 e4 e5 e6
  exact ⟨⟨n0, n1, n2, n3, n4, n5, n6⟩, rfl⟩

set_option maxRecDepth 100000 in
/-- A list of cells that came in. -/
theorem open_list {W W' : World} {b0 : Nat} {v : Value} {d : DataW H} {p : List MemPlace} (hv : Value.okWide Try.prog W' .any b0 22 v) (h : DataW.Trod enc Try.prog W 0 (fun _ => true) true 22 v d p) (hw : (d.weights Try.prog 22).all (· ≤ reachBytes) = true) :
    ∃ l : List Cl, Reads W v l ∧ l.length * 56 + 168 ≤ 140737488355328 ∧ (l = [] → v = .slice none 0 0 ∨ ∃ ad c, v = .slice (some ad) 0 c) := by
  obtain ⟨a0, len0, cap0, rfl⟩ := okWide_slice Try.underlying22 hv
  obtain ⟨fuel, hf⟩ := h
  simp only [Value.cells] at hf
  rcases open_slice Try.underlying22 hf with ⟨h1, h2⟩ | ⟨a, len, cap, m, n, D, Pl, h1, h2, h3, h4, h5, h6, h7⟩
  · simp only [List.cons.injEq, Value.slice.injEq, and_true] at h1
    obtain ⟨rfl, rfl, rfl⟩ := h1
    exact ⟨[], ⟨none, 0, rfl, by simp, ⟨by simp [maxLen], by simp⟩, by simp⟩, by simp, fun _ => .inl rfl⟩
  · simp only [List.cons.injEq, Value.slice.injEq, and_true] at h1
    obtain ⟨rfl, rfl, rfl⟩ := h1
    simp only [if_true] at h5
    subst h5
    have hd := congrArg Prod.fst h6
    simp only [] at hd
    have hcap : m * 56 ≤ reachBytes := by
      rw [hd] at hw
      simp only [DataW.weights, Try.underlying22, bytes53, List.all_cons, List.length_map, List.length_range, Bool.and_eq_true, decide_eq_true_eq] at hw
      have := hw.1
      rwa [show len0 + (m - len0) = m by omega] at this
    unfold reachBytes at hcap
    have hc : ∀ i, i < len0 → ∃ c : Cl, ∀ j, j < 7 → W.cell? (a.add (i * 7 + j)) = c.vals[j]? := by
      intro i hi
      obtain ⟨cs, e1, e2⟩ := h7 i (by omega)
      rw [cells53] at e1
      obtain ⟨c, rfl⟩ := cell_ints e2
      refine ⟨c, fun j hj => ?_⟩
      have := (World.cells?_some e1).2.2 j hj
      rw [← this]
      congr 1
      simp only [Addr.add]
      by_cases hi0 : i = 0
      · subst hi0; simp
      · by_cases hj0 : j = 0
        · subst hj0; simp [hi0]
        · have a1 : ¬ (i * 7 + j = 0) := by omega
          have a2 : ¬ (i * 7 = 0) := by omega
          simp only [a1, a2, hj0, if_false]
          simp [Nat.add_assoc]
    obtain ⟨L, hL⟩ := choose_lt (α := Cl) (p := fun i c => ∀ j, j < 7 → W.cell? (a.add (i * 7 + j)) = c.vals[j]?) hc
    refine ⟨(List.range len0).map L, ⟨some a, m, by simp, by simpa using h3, ⟨h4, by simp; omega⟩, fun hl => ?_⟩, by simp; omega, fun hl => ?_⟩
    · simp only [List.length_map, List.length_range] at hl
      have hsp : a.spot = none := by
        have h0 := hL 0 hl 0 (by omega)
        simp only [Nat.zero_mul, Nat.add_zero, Addr.add, if_true] at h0
        unfold World.cell? at h0
        cases hs : a.spot with
        | none => rfl
        | some x =>
          rw [hs] at h0
          simp [Cl.vals] at h0
          split at h0 <;> simp at h0
      refine ⟨a.block, a.off, by cases a; simp at hsp; simp [hsp], fun i c hi j hj => ?_⟩
      rw [List.getElem?_map] at hi
      have hil : i < len0 := by
        by_cases h : i < len0
        · exact h
        · rw [List.getElem?_eq_none (by simp; omega)] at hi; cases hi
      rw [List.getElem?_range hil] at hi
      simp only [Option.map_some, Option.some.injEq] at hi
      subst hi
      rw [← hL i hil j hj]
      congr 1
      simp only [Addr.add]
      split
      · rename_i h0; cases a; simp at hsp; simp [hsp]; omega
      · simp [Nat.add_assoc]
    · have : len0 = 0 := by have := congrArg List.length hl; simpa using this
      subst this
      exact .inr ⟨a, m, rfl⟩

set_option maxRecDepth 100000 in
/-- The end of a law's row: true, and each argument as it was. -/
theorem post_law {f : Func} {s : ChangeSpec} {apart fresh handsOn again : Bool} {W W' : World} {args : Array Value} {ds gs : List (DataW H)} {before : List MemPlace}
    (hW : DataW.Whole enc Try.prog f.params.toList s.vars apart W args.toList ds gs before) (hr : f.resultTypes = #[4]) (hv : s.vars = []) (hp : ∀ t ∈ f.params.toList, t < Try.prog.types.size)
    (h1 : (s.fn H (ds ++ gs)).results = [.lit (.bool true)]) (h2 : (s.fn H (ds ++ gs)).args = ds) (h3 : (s.fn H (ds ++ gs)).vars = []) (hb : Below W.heap.size W W') :
    s.post enc Try.prog f apart fresh handsOn again W args (.bool true) W' := by
  have hW' := hW
  obtain ⟨p, q, hA, hV, rfl, _, _⟩ := hW
  have hlt := DataW.TrodAll.lt hA
  have hA' : ∀ {ts : List TypeId} {vs : List Value} {ds : List (DataW H)} {ps : List MemPlace}, DataW.TrodAll enc Try.prog W 0 (fun _ => true) true ts vs ds ps → (∀ x ∈ ps, x.block < W.heap.size) → DataW.TrodAll enc Try.prog W' 0 (fun _ => true) true ts vs ds ps := by
    intro ts
    induction ts with
    | nil => intro vs ds ps h _; cases vs <;> cases ds <;> simp_all [DataW.TrodAll]
    | cons t ts ih =>
      intro vs ds ps h hl
      cases vs with
      | nil => simp [DataW.TrodAll] at h
      | cons v vs =>
        cases ds with
        | nil => simp [DataW.TrodAll] at h
        | cons d ds =>
          obtain ⟨p, q, ⟨n, e1⟩, e2, rfl⟩ := h
          exact ⟨p, q, ⟨n, DataW.trod_carry n t _ _ e1 (fun x hx => hb.same (hl x (List.mem_append_left _ hx)))⟩, ih e2 (fun x hx => hl x (List.mem_append_right _ hx)), rfl⟩
  have hq : gs = [] ∧ q = [] := by
    rw [hv] at hV
    cases gs with
    | nil => exact ⟨rfl, hV⟩
    | cons g gs => simp [DataW.TrodVars] at hV
  obtain ⟨rfl, rfl⟩ := hq
  refine post_of_below (pa := p) (pv := []) hW' (fun _ _ _ => ?_) (fun sp hsp => ?_) (fun _ _ => ?_) rfl hb ?_
  · rw [h1, hr]; exact trodAll_cons_mk (shut_bool Try.underlying4 _) trodAll_mk0
  · rw [h2]; exact DataW.TrodAll.respare kids_all full_all hp (hA' hA hlt) (fun x hx => hsp x (by simpa using hx))
  · rw [h3, hv]; rfl
  · exact ok_one hr rfl (okWide_bool_mk Try.underlying4 _)
end

end Go.Proofs.Ytpehceccnjdfeaa
