/- Laws of the walk: a method called through an interface value; the methods of the program's cells. -/
import Derived.Deep.QuietTactic
import Derived.BigQuiet
import Derived.Deep.DeepFit
import Derived.Deep.RegionWith
import Derived.Deep.RegionHeld3
import Derived.Deep.RegionLaw
import Derived.Deep.AppendLies
import Derived.Deep.LoopGhost
import Derived.Deep.DeepCutAuto
import Derived.Deep.CutBlock
import Derived.StillTailTactics
import Derived.WalkSpells
import Derived.Lib.Hide
import Derived.Test.YtpehceccnjdfeaaProg
import Derived.Test.YtpehceccnjdfeaaA1
namespace Go.Proofs.Ytpehceccnjdfeaa
open Go.RowKit

theorem run_invoke_op {P : Program} {o : Oper} {a : Act} {w : World} (r : Operand) (nm : String) (args : Array Operand) (tys : Array TypeId) (hop : o.op = Op.call { callee := Callee.invoke r nm, args := args, argTypes := tys })
    {f : FuncId} {vs : Array Value} (hrun : (callMethod (a.eval r) nm (args.map a.eval)).run P w = .ok (.enter f vs) w) : (execOp a.eval o).run P w = .ok (.enter f vs) w := by
  simp only [execOp, hop, resolve, invoke]
  simp [Sem.run, Sem.bind, hrun]
  rw [show (#[a.eval r] ++ Array.map a.eval args)[0]? = some (a.eval r) from by simp [Array.getElem?_append], show (Array.map a.eval args).extract 0 args.size = Array.map a.eval args from by simp [Array.extract_eq_self_of_le]]
  exact hrun

/-- A method called through an interface value: the callee by its contract. -/
theorem wpList_invoke {P : Program} {ops : Array Oper} {rest : List Oper} {o : Oper} {a : Act} {Q : Exit → Act → World → Prop} {w : World}
    (hg : o.guard = none) (r : Operand) (nm : String) (args : Array Operand) (tys : Array TypeId) (hop : o.op = Op.call { callee := Callee.invoke r nm, args := args, argTypes := tys })
    (f : FuncId) (vs : Array Value) (hrun : (callMethod (a.eval r) nm (args.map a.eval)).run P w = .ok (.enter f vs) w)
    (S : Value → World → Prop) (hC : Calls P f vs w fun e w' => ∃ v, e = .returned v ∧ S v w') (hK : ∀ v w', S v w' → wpList P ops Q rest (a.put o.dst v) w') :
    wpList P ops Q (o :: rest) a w := by
  refine wpList_plain hg fun K hK' => ?_
  unfold Oper.wp
  have h1 := run_invoke_op r nm args tys hop hrun
  rw [h1, Oper.upon_enter]
  refine hC.mono ?_
  rintro e w' ⟨v, rfl, hS⟩
  exact hK' _ _ (hK v w' hS)

/-- A method called on a value: what it comes to. -/
def InvokeC (P : Program) (v : Value) (nm : String) (args : Array Value) (w : World) (R : Ending → World → Prop) : Prop :=
  ∃ f vs, (callMethod v nm args).run P w = .ok (.enter f vs) w ∧ Calls P f vs w R

theorem InvokeC.mono {P : Program} {v : Value} {nm : String} {args : Array Value} {w : World} {R R' : Ending → World → Prop} (h : InvokeC P v nm args w R) (hr : ∀ e w', R e w' → R' e w') : InvokeC P v nm args w R' := by
  obtain ⟨f, vs, h1, h2⟩ := h
  exact ⟨f, vs, h1, h2.mono hr⟩

theorem wpList_inv {P : Program} {ops : Array Oper} {rest : List Oper} {o : Oper} {a : Act} {Q : Exit → Act → World → Prop} {w : World}
    (hg : o.guard = none) (r : Operand) (nm : String) (args : Array Operand) (tys : Array TypeId) (hop : o.op = Op.call { callee := Callee.invoke r nm, args := args, argTypes := tys })
    {R : Ending → World → Prop} (hI : InvokeC P (a.eval r) nm (args.map a.eval) w R) (hK : ∀ e w', R e w' → ∃ v, e = .returned v ∧ wpList P ops Q rest (a.put o.dst v) w') :
    wpList P ops Q (o :: rest) a w := by
  obtain ⟨f, vs, h1, h2⟩ := hI
  refine wpList_invoke hg r nm args tys hop f vs h1 (fun v w' => wpList P ops Q rest (a.put o.dst v) w') (h2.mono hK) fun _ _ h => h

section
variable {P : Program} {ops : Array Oper} {rest : List Oper} {o : Oper} {a : Act} {Q : Exit → Act → World → Prop} {w : World}
/-- The callee only computes: no argument, one, two. -/
theorem wpList_same0 (hg : o.guard = none) (r : Operand) (nm : String) (tys : Array TypeId) (hop : o.op = Op.call { callee := Callee.invoke r nm, args := #[], argTypes := tys }) (v : Value)
    (hI : InvokeC P (a.eval r) nm #[] w fun e w' => e = .returned v ∧ w = w') (hK : wpList P ops Q rest (a.put o.dst v) w) :
    wpList P ops Q (o :: rest) a w :=
  wpList_inv hg r nm #[] tys hop (R := fun e w' => e = .returned v ∧ w = w') (by simpa using hI) fun e w' h => ⟨v, h.1, h.2 ▸ hK⟩
theorem wpList_same1 (hg : o.guard = none) (r x : Operand) (nm : String) (tys : Array TypeId) (hop : o.op = Op.call { callee := Callee.invoke r nm, args := #[x], argTypes := tys }) (v : Value)
    (hI : InvokeC P (a.eval r) nm #[a.eval x] w fun e w' => e = .returned v ∧ w = w') (hK : wpList P ops Q rest (a.put o.dst v) w) :
    wpList P ops Q (o :: rest) a w :=
  wpList_inv hg r nm #[x] tys hop (R := fun e w' => e = .returned v ∧ w = w') (by simpa using hI) fun e w' h => ⟨v, h.1, h.2 ▸ hK⟩
/-- In a region that draws its order and only reads. -/
theorem wpQuiet_inv0 {C : World → Prop} {Q1 : Act → Prop} (hg : o.guard = none) (r : Operand) (nm : String) (tys : Array TypeId) (hop : o.op = Op.call { callee := Callee.invoke r nm, args := #[], argTypes := tys }) (v : Value)
    (hI : ∀ w, InvokeC P (a.eval r) nm #[] w fun e w' => e = .returned v ∧ w = w') (hK : wpQuiet P ops C Q1 rest (a.put o.dst v)) : wpQuiet P ops C Q1 (o :: rest) a := by
  have hw : Region.wanted o (yielded ops a.tmps) = true := by simp [Region.wanted, hg]
  unfold wpQuiet
  rw [if_pos hw]
  refine ⟨v, fun w hC => ?_, hK⟩
  obtain ⟨f, vs, h1, h2⟩ := hI w
  have h3 := run_invoke_op (o := o) (a := a) r nm #[] tys hop (by simpa using h1)
  unfold Oper.quietAt
  rw [h3]
  exact ⟨rfl, h2.mono fun e w' h => ⟨h.1, h.2 ▸ hC⟩⟩
theorem wpQuiet_inv1 {C : World → Prop} {Q1 : Act → Prop} (hg : o.guard = none) (r x : Operand) (nm : String) (tys : Array TypeId) (hop : o.op = Op.call { callee := Callee.invoke r nm, args := #[x], argTypes := tys }) (v : Value)
    (hI : ∀ w, C w → InvokeC P (a.eval r) nm #[a.eval x] w fun e w' => e = .returned v ∧ w = w') (hK : wpQuiet P ops C Q1 rest (a.put o.dst v)) : wpQuiet P ops C Q1 (o :: rest) a := by
  have hw : Region.wanted o (yielded ops a.tmps) = true := by simp [Region.wanted, hg]
  unfold wpQuiet
  rw [if_pos hw]
  refine ⟨v, fun w hC => ?_, hK⟩
  obtain ⟨f, vs, h1, h2⟩ := hI w hC
  have h3 := run_invoke_op (o := o) (a := a) r nm #[x] tys hop (by simpa using h1)
  unfold Oper.quietAt
  rw [h3]
  exact ⟨rfl, h2.mono fun e w' h => ⟨h.1, h.2 ▸ hC⟩⟩
/-- Two arguments; whatever becomes of the world. -/
theorem wpList_inv2 (hg : o.guard = none) (r x y : Operand) (nm : String) (tys : Array TypeId) (hop : o.op = Op.call { callee := Callee.invoke r nm, args := #[x, y], argTypes := tys }) (v : Value) (S : World → Prop)
    (hI : InvokeC P (a.eval r) nm #[a.eval x, a.eval y] w fun e w' => e = .returned v ∧ S w') (hK : ∀ w', S w' → wpList P ops Q rest (a.put o.dst v) w') :
    wpList P ops Q (o :: rest) a w :=
  wpList_inv hg r nm #[x, y] tys hop (R := fun e w' => e = .returned v ∧ S w') (by simpa using hI) fun e w' h => ⟨v, h.1, hK w' h.2⟩
end

/-- A contract 'the world is as it was' in a region that draws. -/
theorem quiet_sym {P : Program} {f : FuncId} {args : Array Value} {w : World} {n : Nat} {v : Value}
    (h : Calls P f args (w.drewN n) fun e w' => e = .returned v ∧ w.drewN n = w') : Calls P f args (w.drewN n) fun e w'' => e = .returned v ∧ ∃ m, w'' = w.drewN m :=
  h.mono fun _ _ ⟨he, hm⟩ => ⟨he, n, hm.symm⟩

def A.roomF : A → Nat | .leaf _ => 150 | .split .. => 153
def A.stretchF : A → Nat | .leaf _ => 151 | .split .. => 154

theorem run_room (a : A) (args : Array Value) (w : World) : (callMethod a.val "mullion/layout.room" args).run Try.prog w = .ok (.enter a.roomF (#[a.ptr] ++ args)) w := by
  cases a with
  | leaf b => kernel_rfl
  | split b a off cap ks => kernel_rfl
theorem run_stretch (a : A) (args : Array Value) (w : World) : (callMethod a.val "mullion/layout.stretch" args).run Try.prog w = .ok (.enter a.stretchF (#[a.ptr] ++ args)) w := by
  cases a with
  | leaf b => kernel_rfl
  | split b a off cap ks => kernel_rfl
theorem run_where (a : A) (args : Array Value) (w : World) : (callMethod a.val "mullion/layout.where" args).run Try.prog w = .ok (.enter 152 (#[a.ptr] ++ args)) w := by
  cases a with
  | leaf b => kernel_rfl
  | split b a off cap ks => kernel_rfl

theorem method_where95 (a : Addr) (w : World) : (method 290 95 (.pointer (some a)) "mullion/layout.where").run Try.prog w = .ok (152, .pointer (some a)) w := by kernel_rfl
theorem method_where102 (a : Addr) (w : World) : (method 290 102 (.pointer (some a)) "mullion/layout.where").run Try.prog w = .ok (152, .pointer (some a)) w := by kernel_rfl
/-- A cell's value, its kind a letter. -/
theorem val_parts (a : A) : ∃ ty, a.val = .iface ty (.pointer (some ⟨a.blk, 0, none⟩)) ∧ (∀ w, (method 290 ty (.pointer (some ⟨a.blk, 0, none⟩)) "mullion/layout.where").run Try.prog w = .ok (152, .pointer (some ⟨a.blk, 0, none⟩)) w) := by
  cases a with
  | leaf b => exact ⟨95, rfl, fun w => method_where95 _ w⟩
  | split b a off cap ks => exact ⟨102, rfl, fun w => method_where102 _ w⟩
theorem ta_leaf_split (a : Addr) (w : World) : (Instr.typeAssert (.iface 95 (.pointer (some a))) 90 102 true).run Try.prog w = .ok (.tuple #[.pointer none, .bool false]) w := by kernel_rfl
theorem ta_leaf_leaf (a : Addr) (w : World) : (Instr.typeAssert (.iface 95 (.pointer (some a))) 90 95 true).run Try.prog w = .ok (.tuple #[.pointer (some a), .bool true]) w := by kernel_rfl
theorem ta_split_leaf (a : Addr) (w : World) : (Instr.typeAssert (.iface 102 (.pointer (some a))) 90 95 true).run Try.prog w = .ok (.tuple #[.pointer none, .bool false]) w := by kernel_rfl
theorem ta_split_split (a : Addr) (w : World) : (Instr.typeAssert (.iface 102 (.pointer (some a))) 90 102 true).run Try.prog w = .ok (.tuple #[.pointer (some a), .bool true]) w := by kernel_rfl
theorem ta_leaf (a : Addr) (w : World) : (Instr.typeAssert (.iface 95 (.pointer (some a))) 90 95 false).run Try.prog w = .ok (.pointer (some a)) w := by kernel_rfl
theorem ta_split (a : Addr) (w : World) : (Instr.typeAssert (.iface 102 (.pointer (some a))) 90 102 false).run Try.prog w = .ok (.pointer (some a)) w := by kernel_rfl

theorem info53 : (Try.prog.info? 53).map (fun i => (i.zero, i.size, i.bytes)) = some (some (.agg #[.int .i64 0, .int .i64 0, .int .i64 0, .int .i64 0, .int .i64 0, .int .i64 0, .int .i64 0]), 7, 56) := by kernel_rfl
theorem info90 : (Try.prog.info? 90).map (fun i => (i.zero, i.size, i.bytes)) = some (some .nilIface, 1, 16) := by kernel_rfl
theorem info3 : (Try.prog.info? 3).map (fun i => (i.zero, i.size, i.bytes)) = some (some (.int .i64 0), 1, 8) := by kernel_rfl
theorem info95 : (Try.prog.info? 95).map (fun i => (i.zero, i.size, i.bytes)) = some (some (.pointer none), 1, 8) := by kernel_rfl
theorem info88 : (Try.prog.info? 88).map (fun i => (i.zero, i.size, i.bytes)) = some (some (.agg #[.int .i64 0, .int .i64 0, .int .i64 0, .int .i64 0, .slice none 0 0]), 5, 56) := by kernel_rfl

/-! ### '==' of two cells of a list -/
theorem fields_last {P : Program} {d : Nat} {xs ys : Array Value} {f : Field} {a b : Value} {r : Bool} {w : World}
    (hn : (f.name == "_") = false) (ha : (part f.type xs f.offset).run P w = .ok a w) (hb : (part f.type ys f.offset).run P w = .ok b w) (he : (Op.equalIn d f.type a b).run P w = .ok r w) :
    (Op.eqFields d xs ys [f]).run P w = .ok r w := by
  have hn' : f.name ≠ "_" := by simpa using hn
  simp only [Op.eqFields, if_pos hn', Sem.run_bind, ha, hb, he, Result.andThen_ok]
  cases r <;> simp
theorem fields_cons {P : Program} {d : Nat} {xs ys : Array Value} {f : Field} {fs : List Field} {a b : Value} {r s : Bool} {w : World}
    (hn : (f.name == "_") = false) (ha : (part f.type xs f.offset).run P w = .ok a w) (hb : (part f.type ys f.offset).run P w = .ok b w) (he : (Op.equalIn d f.type a b).run P w = .ok r w)
    (hr : (Op.eqFields d xs ys fs).run P w = .ok s w) : (Op.eqFields d xs ys (f :: fs)).run P w = .ok (r && s) w := by
  have hn' : f.name ≠ "_" := by simpa using hn
  rw [Op.eqFields]
  simp only [if_pos hn', Sem.run_bind, ha, hb, he, Result.andThen_ok]
  cases r
  · simp
  · simpa using hr
theorem struct_eq_of {P : Program} {d : Nat} {xs ys : Array Value} {r : Bool} {w : World} {t : TypeId} {fs : Array Field} (hu : P.underlying t = some (.struct fs)) (hp : P.stoodInHeld t = false)
    (h : (Op.eqFields d xs ys fs.toList).run P w = .ok r w) : (Op.equalIn (d + 1) t (.agg xs) (.agg ys)).run P w = .ok r w := by
  have hf : P.fieldsOf t = fs := by simp [Program.fieldsOf, hu]
  rw [run_equalIn_struct (P := P) w d t xs ys (by rw [hf]; exact hu) hp, hf]
  exact h
theorem eq53 (d : Nat) (w : World) (x0 y0 x1 y1 x2 y2 x3 y3 x4 y4 x5 y5 x6 y6 : Int) :
    (Op.equalIn (d + 2) 53 (.agg #[.int .i64 x0, .int .i64 x1, .int .i64 x2, .int .i64 x3, .int .i64 x4, .int .i64 x5, .int .i64 x6]) (.agg #[.int .i64 y0, .int .i64 y1, .int .i64 y2, .int .i64 y3, .int .i64 y4, .int .i64 y5, .int .i64 y6])).run Try.prog w =
      .ok (ceq ⟨x0, x1, x2, x3, x4, x5, x6⟩ ⟨y0, y1, y2, y3, y4, y5, y6⟩) w := by
  have e : ceq ⟨x0, x1, x2, x3, x4, x5, x6⟩ ⟨y0, y1, y2, y3, y4, y5, y6⟩ = (x0 == y0 && (x1 == y1 && (x2 == y2 && (x3 == y3 && (x4 == y4 && (x5 == y5 && x6 == y6)))))) := by
    rw [Bool.eq_iff_iff]; simp [ceq]
  rw [e]
  refine struct_eq_of Try.underlying53 (by kernel_rfl) ?_
  refine fields_cons (by rfl) (by go_simp; rfl) (by go_simp; rfl) (by go_simp) ?_
  refine fields_cons (by rfl) (by go_simp; rfl) (by go_simp; rfl) (by go_simp) ?_
  refine fields_cons (by rfl) (by go_simp; rfl) (by go_simp; rfl) (by go_simp) ?_
  refine fields_cons (by rfl) (by go_simp; rfl) (by go_simp; rfl) (by go_simp) ?_
  refine fields_cons (by rfl) (by go_simp; rfl) (by go_simp; rfl) (by go_simp) ?_
  refine fields_cons (by rfl) (by go_simp; rfl) (by go_simp; rfl) (by go_simp) ?_
  exact fields_last (by rfl) (by go_simp; rfl) (by go_simp; rfl) (by go_simp)

/-! ### The small functions -/
theorem side_any (n : Int) (w : World) : Calls Try.prog 63 #[.int .i64 n] w fun e w' => e = .returned (.bool (sideB n)) ∧ w = w' := by
  unfold sideB
  go_enter Try.func63, Try.ntmps63
  go_wp2
  all_goals (go_ret; simp_all; try omega)

theorem id_any (n : Int) (w : World) : Calls Try.prog 64 #[.int .i64 n] w fun e w' => e = .returned (.bool (idB n)) ∧ w = w' := by
  unfold idB
  go_enter Try.func64, Try.ntmps64
  go_wp2
  all_goals (go_ret; simp_all; try omega)

theorem kindOf_any (n : Int) (w : World) : Calls Try.prog 67 #[.int .i64 n] w fun e w' => e = .returned (.bool (kindB n)) ∧ w = w' := by
  unfold kindB
  go_enter Try.func67, Try.ntmps67
  go_wp2
  all_goals (go_ret; (try simp_all); (try (rw [Bool.eq_iff_iff]; simp; omega)))

theorem extent_any (b off : Nat) (W H : Int) (kind : Int) (w : World) (h2 : w.cell? ⟨b, off + 2, none⟩ = some (.int .i64 W)) (h3 : w.cell? ⟨b, off + 3, none⟩ = some (.int .i64 H)) :
    Calls Try.prog 70 #[.pointer (some ⟨b, off, none⟩), .int .i64 kind] w fun e w' => e = .returned (.int .i64 (ext kind W H)) ∧ w = w' := by
  unfold ext
  go_enter Try.func70, Try.ntmps70
  go_wp2
  all_goals (go_ret; simp_all)

theorem set_any (b off : Nat) (v2 v3 : Value) (kind n : Int) (w : World) (h2 : w.cell? ⟨b, off + 2, none⟩ = some v2) (h3 : w.cell? ⟨b, off + 3, none⟩ = some v3)
    (f2 : w.frozen? ⟨b, off+2, none⟩ = false) (f3 : w.frozen? ⟨b, off+3, none⟩ = false) :
    Calls Try.prog 71 #[.pointer (some ⟨b, off, none⟩), .int .i64 kind, .int .i64 n] w fun e w' => e = .returned (.tuple #[]) ∧ w.setCell ⟨b, off + (if kind = 2 then 2 else 3), none⟩ (.int .i64 n) = w' := by
  go_enter Try.func71, Try.ntmps71
  go_wp2
  all_goals (go_end0; simp_all)

theorem where_any (v : Value) (w : World) : Calls Try.prog 152 #[v] w fun e w' => e = .returned v ∧ w = w' := by
  go_enter Try.func152, Try.ntmps152
  go_wp2
  go_ret
  exact ⟨rfl, rfl⟩

theorem where_inv (a : A) (w : World) : InvokeC Try.prog a.val "mullion/layout.where" #[] w fun e w' => e = .returned a.ptr ∧ w = w' :=
  ⟨152, #[a.ptr], by simpa using run_where a #[] w, where_any _ _⟩

theorem span_any (b off : Nat) (x y W H : Int) (kind : Int) (w : World) (h0 : w.cell? ⟨b, off + 0, none⟩ = some (.int .i64 x)) (h1 : w.cell? ⟨b, off + 1, none⟩ = some (.int .i64 y))
    (h2 : w.cell? ⟨b, off + 2, none⟩ = some (.int .i64 W)) (h3 : w.cell? ⟨b, off + 3, none⟩ = some (.int .i64 H)) (b0 : 0 ≤ x) (b1 : x ≤ 1000000) (b2 : 0 ≤ y) (b3 : y ≤ 1000000) (b4 : 0 ≤ W) (b5 : W ≤ 1000000) (b6 : 0 ≤ H) (b7 : H ≤ 1000000) :
    Calls Try.prog 94 #[.pointer (some ⟨b, off, none⟩), .int .i64 kind] w fun e w' => e = .returned (.tuple #[.int .i64 (if kind = 2 then x else y), .int .i64 (if kind = 2 then x + W else y + H)]) ∧ ∃ m, w' = w.drewN m := by
  simp only [Nat.add_zero] at h0
  go_enter Try.func94, Try.ntmps94
  by_cases hk : kind = 2
  all_goals
    go_wp2
    go_quiet (fail)
    go_wp2
    go_ret2
    exact ⟨by simp [hk], _, rfl⟩

end Go.Proofs.Ytpehceccnjdfeaa
