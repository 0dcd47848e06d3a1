/- How trees and lists of cells lie in memory. -/
import Derived.WalkKit
import Derived.Deep.Draws
import Derived.Test.YtpehceccnjdfeaaA0
namespace Go.Proofs.Ytpehceccnjdfeaa
open Go.RowKit

/-! ### What a call may have written -/
/-- Of the blocks that there were, those that S does not name are as they were. -/
structure Upd (S : Nat → Prop) (w w' : World) : Prop where
  os : w'.os = w.os
  tape : w'.tape = w.tape
  output : w'.output = w.output
  size : w.heap.size ≤ w'.heap.size
  block : ∀ k, k < w.heap.size → ¬ S k → w'.heap[k]? = w.heap[k]?

theorem Upd.refl (S : Nat → Prop) (w : World) : Upd S w w := ⟨rfl, rfl, rfl, Nat.le_refl _, fun _ _ _ => rfl⟩
theorem Upd.then_ {S S1 : Nat → Prop} {w w1 w2 : World} (h : Upd S w w1) (k : Upd S1 w1 w2) (hs : ∀ k, k < w.heap.size → S1 k → S k) : Upd S w w2 :=
  ⟨k.os.trans h.os, k.tape.trans h.tape, k.output.trans h.output, Nat.le_trans h.size k.size,
    fun i hi hn => (k.block i (Nat.lt_of_lt_of_le hi h.size) fun e => hn (hs i hi e)).trans (h.block i hi hn)⟩
theorem Upd.trans {S : Nat → Prop} {w w1 w2 : World} (h : Upd S w w1) (k : Upd S w1 w2) : Upd S w w2 := h.then_ k fun _ _ e => e
theorem Upd.mono {S S1 : Nat → Prop} {w w1 : World} (h : Upd S w w1) (hs : ∀ k, k < w.heap.size → S k → S1 k) : Upd S1 w w1 :=
  ⟨h.os, h.tape, h.output, h.size, fun i hi hn => h.block i hi fun e => hn (hs i hi e)⟩
theorem Upd.alloc {S : Nat → Prop} {w w1 : World} (h : Upd S w w1) (o : Obj) : Upd S w (w1.alloc o) :=
  h.trans ⟨rfl, rfl, rfl, by simp, fun k hk _ => Below.heap_alloc _ _ _ hk⟩
theorem Upd.drew {S : Nat → Prop} {w w1 : World} (h : Upd S w w1) : Upd S w w1.drew := ⟨h.os, h.tape, h.output, h.size, h.block⟩
theorem Upd.drewN {S : Nat → Prop} {w w1 : World} (h : Upd S w w1) (n : Nat) : Upd S w (w1.drewN n) := ⟨h.os, h.tape, h.output, h.size, h.block⟩
theorem Upd.setCell {S : Nat → Prop} {w w1 : World} (h : Upd S w w1) (p : Addr) (u : Value) (hs : p.block < w.heap.size → S p.block) : Upd S w (w1.setCell p u) :=
  ⟨h.os, h.tape, h.output, by simpa using h.size, fun k hk hn => by
    rw [Below.heap_setCell _ _ _ _ (fun e => hn (by subst e; exact hs hk))]
    exact h.block k hk hn⟩
theorem Upd.grown {S : Nat → Prop} {w w1 w2 : World} {row : Option Nat} (h : Upd S w w1) (hg : w1.grownBy w2 row) (hs : ∀ k, k < w.heap.size → row = some k → S k) : Upd S w w2 :=
  ⟨hg.os.trans h.os, hg.tape.trans h.tape, hg.output.trans h.output, Nat.le_trans h.size hg.size, fun k hk hn => by
    rw [hg.block k (Nat.lt_of_lt_of_le hk h.size) (fun e => hn (hs k hk e.symm))]
    exact h.block k hk hn⟩
theorem Upd.below {S : Nat → Prop} {w w1 : World} (h : Upd S w w1) (B : Nat) (hB : B ≤ w.heap.size) (hs : ∀ k, k < w.heap.size → S k → B ≤ k) : Below B w w1 :=
  ⟨h.os, h.tape, h.output, h.size, fun k hk => h.block k (Nat.lt_of_lt_of_le hk hB) fun e => by have := hs k (Nat.lt_of_lt_of_le hk hB) e; omega⟩
theorem Upd.of_below {w w1 : World} (S : Nat → Prop) (h : Below w.heap.size w w1) : Upd S w w1 := ⟨h.os, h.tape, h.output, h.size, fun k hk _ => h.block k hk⟩
theorem Upd.belowNone {w w1 : World} (h : Upd (fun _ => False) w w1) : Below w.heap.size w w1 := h.below _ (Nat.le_refl _) fun _ _ e => e.elim

theorem below_drewN {B : Nat} {w w1 : World} (h : Below B w w1) (n : Nat) : Below B w (w1.drewN n) := ⟨h.os, h.tape, h.output, h.size, h.block⟩
theorem below_then {B : Nat} {w w1 w2 : World} (h : Below B w w1) (hB : B ≤ w.heap.size) (k : Below w1.heap.size w1 w2) : Below B w w2 :=
  h.trans ⟨k.os, k.tape, k.output, k.size, fun i hi => k.block i (by have := h.size; omega)⟩

/-! ### A block whose cells are known -/
theorem blk_lt {w : World} {b : Nat} {o : Obj} (h : w.heap[b]? = some o) : b < w.heap.size := (Array.getElem?_eq_some_iff.1 h).1
theorem blk_cell {w : World} {b : Nat} {cs : Array Value} {t : TypeId} {fr : Nat × Nat} (h : w.heap[b]? = some (.cells cs t fr)) (i : Nat) : w.cell? ⟨b, i, none⟩ = cs[i]? := cell_of_row w b i cs t fr h
theorem blk_free {w : World} {b : Nat} {cs : Array Value} {t : TypeId} (h : w.heap[b]? = some (.cells cs t (0, 0))) (i : Nat) : w.frozen? ⟨b, i, none⟩ = false := frozen_of_row w b i cs t h
theorem blk_set {w : World} {b : Nat} {cs : Array Value} {t : TypeId} (h : w.heap[b]? = some (.cells cs t (0, 0))) (i : Nat) (v : Value) : (w.setCell ⟨b, i, none⟩ v).heap[b]? = some (.cells (cs.setIfInBounds i v) t (0, 0)) :=
  heap_setCell_same w b i cs t v h
theorem blk_far {w : World} {b : Nat} {o : Obj} (h : w.heap[b]? = some o) (p : Addr) (v : Value) (hne : b ≠ p.block) : (w.setCell p v).heap[b]? = some o := by
  rw [Below.heap_setCell _ _ _ _ hne]; exact h
theorem blk_alloc {w : World} {b : Nat} {o : Obj} (h : w.heap[b]? = some o) (o' : Obj) : (w.alloc o').heap[b]? = some o := by
  rw [Below.heap_alloc _ _ _ (blk_lt h)]; exact h
theorem blk_upd {S : Nat → Prop} {w w1 : World} {b : Nat} {o : Obj} (h : w.heap[b]? = some o) (hu : Upd S w w1) (hs : ¬ S b) : w1.heap[b]? = some o := (hu.block b (blk_lt h) hs).trans h
theorem blk_below {w w1 : World} {b : Nat} {o : Obj} (h : w.heap[b]? = some o) (hu : Below w.heap.size w w1) : w1.heap[b]? = some o := (hu.block b (blk_lt h)).trans h

/-! ### A counting loop -/
theorem meas_lt {m j : Nat} (h : j < m) : m - (intOf (.int .i64 ((j : Int) + 1))).toNat < m - (intOf (.int .i64 (j : Int))).toNat := by simp [intOf]; omega
theorem num_succ (j : Nat) : Value.int .i64 ((j : Int) + 1) = .int .i64 ((j + 1 : Nat) : Int) := by simp
theorem int_eq {a b : Int} (h : a = b) : Value.int .i64 a = .int .i64 b := by rw [h]

/-! ### Trees -/
/-- Where a tree's cells lie: a pane's block; a cut cell's block, its children's row: block, place, room. -/
inductive A where
  | leaf (b : Nat)
  | split (b a off cap : Nat) (kids : List A)
  deriving Inhabited

def A.blk : A → Nat | .leaf b => b | .split b .. => b
def A.ty : A → Nat | .leaf _ => 95 | .split .. => 102
def A.ptr (a : A) : Value := .pointer (some ⟨a.blk, 0, none⟩)
def A.val (a : A) : Value := .iface a.ty a.ptr

mutual
def A.blks : A → List Nat
  | .leaf b => [b]
  | .split b a _ _ ks => b :: a :: blksL ks
def blksL : List A → List Nat
  | [] => []
  | a :: as => a.blks ++ blksL as
end

theorem blksL_mem {k : Nat} {l : List A} : k ∈ blksL l ↔ ∃ a ∈ l, k ∈ a.blks := by
  induction l with
  | nil => simp [blksL]
  | cons a l ih => simp [blksL, ih]

/-- A row of interface values. -/
def Row (w : World) (a off cap : Nat) (vs : List Value) : Prop :=
  ∃ cs : Array Value, w.heap[a]? = some (.cells cs 90 (0, 0)) ∧ off + cap ≤ cs.size ∧ vs.length ≤ cap ∧ (cs.toList.drop off).take vs.length = vs

theorem Row.cell {w : World} {a off cap : Nat} {vs : List Value} (h : Row w a off cap vs) {i : Nat} {v : Value} (hv : vs[i]? = some v) : w.cell? ⟨a, off + i, none⟩ = some v := by
  obtain ⟨cs, h1, h2, h3, h4⟩ := h
  have hi := (List.getElem?_eq_some_iff.1 hv).1
  rw [blk_cell h1]
  rw [← h4, List.getElem?_take, if_pos hi, List.getElem?_drop] at hv
  simpa using hv
theorem Row.congr {w w' : World} {a off cap : Nat} {vs : List Value} (h : Row w a off cap vs) (e : w'.heap[a]? = w.heap[a]?) : Row w' a off cap vs := by
  obtain ⟨cs, h1, h2⟩ := h
  exact ⟨cs, e.trans h1, h2⟩

mutual
def Rep (w : World) : A → R → Prop
  | .leaf b, .mk k W H id kids => k = 1 ∧ kids = [] ∧ ∃ x y, w.heap[b]? = some (.cells #[.int .i64 x, .int .i64 y, .int .i64 W, .int .i64 H, .int .i64 id] 100 (0, 0))
  | .split b a off cap ks, .mk k W H id kids => id = 0 ∧ (k = 2 ∨ k = 3) ∧ (∃ x y, w.heap[b]? = some (.cells #[.int .i64 x, .int .i64 y, .int .i64 W, .int .i64 H, .int .i64 k, .slice (some ⟨a, off, none⟩) ks.length cap] 105 (0, 0))) ∧ Row w a off cap (ks.map A.val) ∧ Reps w ks kids
def Reps (w : World) : List A → List R → Prop
  | [], [] => True
  | a :: as, r :: rs => Rep w a r ∧ Reps w as rs
  | [], _ :: _ => False
  | _ :: _, [] => False
end

theorem Reps_iff (w : World) : ∀ (ks : List A) (rs : List R), Reps w ks rs ↔ ks.length = rs.length ∧ ∀ (i : Nat) (a : A) (r : R), ks[i]? = some a → rs[i]? = some r → Rep w a r
  | [], [] => by simp [Reps]
  | [], r :: rs => by simp [Reps]
  | a :: as, [] => by simp [Reps]
  | a :: as, r :: rs => by
    simp only [Reps, Reps_iff w as rs, List.length_cons]
    constructor
    · rintro ⟨h1, h2, h3⟩
      refine ⟨by omega, fun i b s hb hs => ?_⟩
      cases i with
      | zero => simp at hb hs; subst hb hs; exact h1
      | succ i => simp at hb hs; exact h3 i b s hb hs
    · rintro ⟨h1, h2⟩
      refine ⟨h2 0 a r rfl rfl, by omega, fun i b s hb hs => h2 (i + 1) b s (by simpa using hb) (by simpa using hs)⟩

mutual
theorem Rep.congr {w w' : World} : ∀ (a : A) (r : R), Rep w a r → (∀ k ∈ a.blks, w'.heap[k]? = w.heap[k]?) → Rep w' a r
  | .leaf b, .mk k W H id kids, h, e => by
    simp only [Rep, A.blks, List.mem_singleton, forall_eq] at h e ⊢
    rw [e]; exact h
  | .split b a off cap ks, .mk k W H id kids, h, e => by
    simp only [Rep, A.blks, List.mem_cons] at h e ⊢
    obtain ⟨h1, h2, h3, h4, h5⟩ := h
    rw [e b (.inl rfl)]
    exact ⟨h1, h2, h3, h4.congr (e a (.inr (.inl rfl))), Reps.congr ks kids h5 fun k hk => e k (.inr (.inr hk))⟩
theorem Reps.congr {w w' : World} : ∀ (ks : List A) (rs : List R), Reps w ks rs → (∀ k ∈ blksL ks, w'.heap[k]? = w.heap[k]?) → Reps w' ks rs
  | [], [], _, _ => by simp [Reps]
  | [], _ :: _, h, _ => by simp [Reps] at h
  | _ :: _, [], h, _ => by simp [Reps] at h
  | a :: as, r :: rs, h, e => by
    simp only [Reps, blksL, List.mem_append] at h e ⊢
    exact ⟨Rep.congr a r h.1 fun k hk => e k (.inl hk), Reps.congr as rs h.2 fun k hk => e k (.inr hk)⟩
end

theorem Rep.wh {w : World} {a : A} {r : R} (h : Rep w a r) : w.cell? ⟨a.blk, 2, none⟩ = some (.int .i64 r.w) ∧ w.cell? ⟨a.blk, 3, none⟩ = some (.int .i64 r.h) := by
  cases a <;> cases r <;> simp only [Rep] at h
  · obtain ⟨_, _, x, y, hb⟩ := h
    exact ⟨blk_cell hb 2, blk_cell hb 3⟩
  · obtain ⟨_, _, ⟨x, y, hb⟩, _⟩ := h
    exact ⟨blk_cell hb 2, blk_cell hb 3⟩

/-- The blocks of a tree are rows of the program's own kinds. -/
def Tyd (w : World) (k : Nat) : Prop := ∃ cs t, w.heap[k]? = some (.cells cs t (0, 0)) ∧ (t = 100 ∨ t = 105 ∨ t = 90)
mutual
theorem Rep.tyd {w : World} : ∀ (a : A) (r : R), Rep w a r → ∀ k ∈ a.blks, Tyd w k
  | .leaf b, .mk k W H id kids, h, j, hj => by
    simp only [Rep, A.blks, List.mem_singleton] at h hj
    subst hj
    obtain ⟨_, _, x, y, hb⟩ := h
    exact ⟨_, _, hb, .inl rfl⟩
  | .split b a off cap ks, .mk k W H id kids, h, j, hj => by
    simp only [Rep, A.blks, List.mem_cons] at h hj
    obtain ⟨h1, h2, ⟨x, y, h3⟩, h4, h5⟩ := h
    rcases hj with rfl | rfl | hj
    · exact ⟨_, _, h3, .inr (.inl rfl)⟩
    · obtain ⟨cs, hc, _⟩ := h4
      exact ⟨_, _, hc, .inr (.inr rfl)⟩
    · exact Reps.tyd ks kids h5 j hj
theorem Reps.tyd {w : World} : ∀ (ks : List A) (rs : List R), Reps w ks rs → ∀ k ∈ blksL ks, Tyd w k
  | [], [], _, _, hj => by simp [blksL] at hj
  | [], _ :: _, h, _, _ => by simp [Reps] at h
  | _ :: _, [], h, _, _ => by simp [Reps] at h
  | a :: as, r :: rs, h, j, hj => by
    simp only [Reps, blksL, List.mem_append] at h hj
    rcases hj with hj | hj
    · exact Rep.tyd a r h.1 j hj
    · exact Reps.tyd as rs h.2 j hj
end
theorem Tyd.lt {w : World} {k : Nat} (h : Tyd w k) : k < w.heap.size := by
  obtain ⟨_, _, h, _⟩ := h
  exact blk_lt h
theorem Tyd.ne {w : World} {k b : Nat} {cs : Array Value} {t : TypeId} {fr : Nat × Nat} (h : Tyd w k) (hb : w.heap[b]? = some (.cells cs t fr)) (h1 : t ≠ 100) (h2 : t ≠ 105) (h3 : t ≠ 90) : k ≠ b := by
  rintro rfl
  obtain ⟨_, t', h, ht⟩ := h
  rw [hb] at h
  injection h with h
  injection h with _ e
  subst e
  rcases ht with e | e | e
  · exact h1 e
  · exact h2 e
  · exact h3 e

theorem Rep.upd {S : Nat → Prop} {w w' : World} {a : A} {r : R} (h : Rep w a r) (hu : Upd S w w') (hs : ∀ k ∈ a.blks, ¬ S k) : Rep w' a r :=
  Rep.congr a r h fun k hk => hu.block k (Rep.tyd a r h k hk).lt (hs k hk)
theorem Reps.upd {S : Nat → Prop} {w w' : World} {a : List A} {r : List R} (h : Reps w a r) (hu : Upd S w w') (hs : ∀ k ∈ blksL a, ¬ S k) : Reps w' a r :=
  Reps.congr a r h fun k hk => hu.block k (Reps.tyd a r h k hk).lt (hs k hk)
theorem Rep.below {w w' : World} {a : A} {r : R} (h : Rep w a r) (hu : Below w.heap.size w w') : Rep w' a r :=
  Rep.congr a r h fun k hk => hu.block k (Rep.tyd a r h k hk).lt
theorem Reps.below {w w' : World} {a : List A} {r : List R} (h : Reps w a r) (hu : Below w.heap.size w w') : Reps w' a r :=
  Reps.congr a r h fun k hk => hu.block k (Reps.tyd a r h k hk).lt

mutual
/-- Where the panes lie: as 'lay' lays them. -/
def Pos (w : World) : A → R → Int → Int → Prop
  | .leaf b, .mk _ _ _ _ _, x, y => w.cell? ⟨b, 0, none⟩ = some (.int .i64 x) ∧ w.cell? ⟨b, 1, none⟩ = some (.int .i64 y)
  | .split _ _ _ _ ks, .mk k _ _ _ kids, x, y => PosL w k ks kids x y
def PosL (w : World) (k : Int) : List A → List R → Int → Int → Prop
  | a :: as, r :: rs, x, y => Pos w a r x y ∧ PosL w k as rs (if k = 2 then x + r.w + 1 else x) (if k = 2 then y else y + r.h + 1)
  | _, _, _, _ => True
end
mutual
theorem Pos.congr {w w' : World} : ∀ (a : A) (r : R) (x y : Int), Pos w a r x y → (∀ k ∈ a.blks, w'.heap[k]? = w.heap[k]?) → Pos w' a r x y
  | .leaf b, .mk k W H id kids, x, y, h, e => by
    simp only [Pos, A.blks, List.mem_singleton, forall_eq] at h e ⊢
    rw [World.cell?_of_block (w := w) (w' := w') (a := ⟨b, 0, none⟩) e, World.cell?_of_block (w := w) (w' := w') (a := ⟨b, 1, none⟩) e]; exact h
  | .split b a off cap ks, .mk k W H id kids, x, y, h, e => by
    simp only [Pos, A.blks, List.mem_cons] at h e ⊢
    exact PosL.congr k ks kids x y h fun k hk => e k (.inr (.inr hk))
theorem PosL.congr {w w' : World} (k : Int) : ∀ (ks : List A) (rs : List R) (x y : Int), PosL w k ks rs x y → (∀ k ∈ blksL ks, w'.heap[k]? = w.heap[k]?) → PosL w' k ks rs x y
  | [], _, _, _, _, _ => by simp [PosL]
  | _ :: _, [], _, _, _, _ => by simp [PosL]
  | a :: as, r :: rs, x, y, h, e => by
    simp only [PosL, blksL, List.mem_append] at h e ⊢
    exact ⟨Pos.congr a r x y h.1 fun k hk => e k (.inl hk), PosL.congr k as rs _ _ h.2 fun k hk => e k (.inr hk)⟩
end

theorem PosL_snoc (w : World) (k : Int) : ∀ (as : List A) (rs : List R) (a : A) (r : R) (x y : Int), as.length = rs.length →
    (PosL w k (as ++ [a]) (rs ++ [r]) x y ↔ PosL w k as rs x y ∧ Pos w a r (nextX k x rs) (nextY k y rs))
  | [], [], a, r, x, y, _ => by simp [PosL, nextX, nextY]
  | [], _ :: _, _, _, _, _, h => by simp at h
  | _ :: _, [], _, _, _, _, h => by simp at h
  | a' :: as, r' :: rs, a, r, x, y, h => by
    simp only [List.cons_append, PosL, nextX, nextY]
    rw [PosL_snoc w k as rs a r _ _ (by simpa using h), and_assoc]
theorem PosL.upd {S : Nat → Prop} {w w' : World} {k : Int} {as : List A} {rs rs0 : List R} {x y : Int} (h : PosL w k as rs x y) (hr : Reps w as rs0) (hu : Upd S w w') (hs : ∀ j ∈ blksL as, ¬ S j) : PosL w' k as rs x y :=
  PosL.congr k as rs x y h fun j hj => hu.block j (Reps.tyd as rs0 hr j hj).lt (hs j hj)
theorem Pos.upd {S : Nat → Prop} {w w' : World} {a : A} {r r0 : R} {x y : Int} (h : Pos w a r x y) (hr : Rep w a r0) (hu : Upd S w w') (hs : ∀ j ∈ a.blks, ¬ S j) : Pos w' a r x y :=
  Pos.congr a r x y h fun j hj => hu.block j (Rep.tyd a r0 hr j hj).lt (hs j hj)

theorem blksL_append (l m : List A) : blksL (l ++ m) = blksL l ++ blksL m := by
  induction l with
  | nil => rfl
  | cons a l ih => simp [blksL, ih]
theorem blksL_at {l : List A} {j : Nat} {a : A} (h : l[j]? = some a) : ∀ k ∈ a.blks, k ∈ blksL l := fun _ hk => blksL_mem.2 ⟨a, List.mem_of_getElem? h, hk⟩
/-- No block lies in two children. -/
theorem blks_apart {l : List A} (hn : (blksL l).Nodup) {i j : Nat} {a b : A} (hi : l[i]? = some a) (hj : l[j]? = some b) (hne : i ≠ j) : ∀ k ∈ a.blks, k ∉ b.blks := by
  intro k ha hb
  have key : ∀ (i j : Nat) (a b : A), i < j → l[i]? = some a → l[j]? = some b → k ∈ a.blks → k ∈ b.blks → False := by
    intro i j a b hlt hi hj ha hb
    rw [take_split hi, blksL_append] at hn
    simp only [blksL] at hn
    have h1 := (List.nodup_append.1 (List.nodup_append.1 hn).2.1).2.2
    refine h1 k ha k (blksL_mem.2 ⟨b, ?_, hb⟩) rfl
    rw [List.mem_iff_getElem?]
    exact ⟨j - (i + 1), by rw [List.getElem?_drop, show i + 1 + (j - (i + 1)) = j from by omega]; exact hj⟩
  rcases Nat.lt_or_gt_of_ne hne with h | h
  · exact key i j a b h hi hj ha hb
  · exact key j i b a h hj hi hb ha
theorem blks_nodup_at {l : List A} (hn : (blksL l).Nodup) {i : Nat} {a : A} (hi : l[i]? = some a) : a.blks.Nodup := by
  rw [take_split hi, blksL_append] at hn
  simp only [blksL] at hn
  exact (List.nodup_append.1 (List.nodup_append.1 hn).2.1).1
/-- One child has turned. -/
theorem Reps.set {S : Nat → Prop} {w w' : World} {ks : List A} {rs : List R} (h : Reps w ks rs) (hu : Upd S w w') {j : Nat} {a : A} {r' : R} (hj : ks[j]? = some a) (hr : Rep w' a r')
    (hs : ∀ i b, ks[i]? = some b → i ≠ j → ∀ k ∈ b.blks, ¬ S k) : Reps w' ks (rs.set j r') := by
  rw [Reps_iff] at h ⊢
  refine ⟨by simpa using h.1, fun i b s hb hsi => ?_⟩
  by_cases e : i = j
  · subst e
    rw [hj] at hb
    obtain rfl := Option.some.inj hb
    rw [List.getElem?_set] at hsi
    simp only [if_true] at hsi
    split at hsi
    · obtain rfl := Option.some.inj hsi
      exact hr
    · cases hsi
  · rw [List.getElem?_set_ne (Ne.symm e)] at hsi
    exact (h.2 i b s hb hsi).upd hu (hs i b hb e)

/-! ### Lists of cells -/
def Cl.vals (c : Cl) : List Value := [.int .i64 c.d, .int .i64 c.k, .int .i64 c.x, .int .i64 c.y, .int .i64 c.w, .int .i64 c.h, .int .i64 c.p]
def cvals (l : List Cl) : List Value := l.flatMap Cl.vals
theorem vals_length (c : Cl) : c.vals.length = 7 := rfl
theorem cvals_length (l : List Cl) : (cvals l).length = l.length * 7 := by
  induction l with
  | nil => rfl
  | cons a l ih => simp only [cvals, List.flatMap_cons, List.length_append, vals_length, List.length_cons] at ih ⊢; omega
theorem cvals_append (l m : List Cl) : cvals (l ++ m) = cvals l ++ cvals m := by simp [cvals]
theorem cvals_one (c : Cl) : cvals [c] = c.vals := by simp [cvals]
theorem cvals_at (l : List Cl) : ∀ (i : Nat) (c : Cl) (j : Nat), l[i]? = some c → j < 7 → (cvals l)[i * 7 + j]? = c.vals[j]? := by
  induction l with
  | nil => intro i c j h; simp at h
  | cons a l ih =>
    intro i c j h hj
    have e : cvals (a :: l) = a.vals ++ cvals l := by simp [cvals]
    rw [e]
    cases i with
    | zero => simp at h; subst h; rw [List.getElem?_append_left (by simpa [vals_length] using hj)]; simp
    | succ i =>
      rw [List.getElem?_append_right (by rw [vals_length]; omega), vals_length, show (i + 1) * 7 + j - 7 = i * 7 + j from by omega]
      exact ih i c j (by simpa using h) hj

/-- A slice's length and capacity are no larger than can be. -/
def CapOk (n cap : Nat) : Prop := cap ≤ maxLen ∧ n * 56 ≤ 140737488355328
/-- v is a slice that reads as these cells. -/
def Reads (w : World) (v : Value) (l : List Cl) : Prop :=
  ∃ a cap, v = .slice a l.length cap ∧ l.length ≤ cap ∧ CapOk l.length cap ∧
    (0 < l.length → ∃ b off, a = some ⟨b, off, none⟩ ∧ ∀ i c, l[i]? = some c → ∀ j, j < 7 → w.cell? ⟨b, off + i * 7 + j, none⟩ = c.vals[j]?)

theorem Reads.below {w w' : World} {v : Value} {l : List Cl} (h : Reads w v l) (hu : Below w.heap.size w w') : Reads w' v l := by
  obtain ⟨a, cap, h1, h2, h3, h4⟩ := h
  refine ⟨a, cap, h1, h2, h3, fun hl => ?_⟩
  obtain ⟨b, off, e, hc⟩ := h4 hl
  refine ⟨b, off, e, fun i c hi j hj => ?_⟩
  have := hc i c hi j hj
  rw [← this]
  have hv : j < c.vals.length := by rw [vals_length]; exact hj
  rw [List.getElem?_eq_getElem hv] at this
  exact hu.cell (p := ⟨b, off + i * 7 + j, none⟩) (World.block_lt_of_cell? w _ this)

/-- The same, and the cells lie below block B. -/
def ReadsB (B : Nat) (w : World) (v : Value) (l : List Cl) : Prop :=
  ∃ a cap, v = .slice a l.length cap ∧ l.length ≤ cap ∧ CapOk l.length cap ∧
    (0 < l.length → ∃ b off, a = some ⟨b, off, none⟩ ∧ b < B ∧ ∀ i c, l[i]? = some c → ∀ j, j < 7 → w.cell? ⟨b, off + i * 7 + j, none⟩ = c.vals[j]?)
theorem ReadsB.reads {B : Nat} {w : World} {v : Value} {l : List Cl} (h : ReadsB B w v l) : Reads w v l := by
  obtain ⟨a, cap, h1, h2, h3, h4⟩ := h
  exact ⟨a, cap, h1, h2, h3, fun hl => by obtain ⟨b, off, e, _, hc⟩ := h4 hl; exact ⟨b, off, e, hc⟩⟩
theorem Reads.toB {w : World} {v : Value} {l : List Cl} (h : Reads w v l) : ReadsB w.heap.size w v l := by
  obtain ⟨a, cap, h1, h2, h3, h4⟩ := h
  refine ⟨a, cap, h1, h2, h3, fun hl => ?_⟩
  obtain ⟨b, off, e, hc⟩ := h4 hl
  refine ⟨b, off, e, ?_, hc⟩
  have := hc 0 (l[0]'hl) (by simp) 0 (by omega)
  exact World.block_lt_of_cell? w ⟨b, off + 0 * 7 + 0, none⟩ (u := .int .i64 (l[0]'hl).d) (by rw [this]; rfl)
theorem ReadsB.below {B : Nat} {w w' : World} {v : Value} {l : List Cl} (h : ReadsB B w v l) (hu : Below B w w') : ReadsB B w' v l := by
  obtain ⟨a, cap, h1, h2, h3, h4⟩ := h
  refine ⟨a, cap, h1, h2, h3, fun hl => ?_⟩
  obtain ⟨b, off, e, hb, hc⟩ := h4 hl
  exact ⟨b, off, e, hb, fun i c hi j hj => (hu.cell (p := ⟨b, off + i * 7 + j, none⟩) hb).trans (hc i c hi j hj)⟩
theorem ReadsB.mono {B B' : Nat} {w : World} {v : Value} {l : List Cl} (h : ReadsB B w v l) (hB : B ≤ B') : ReadsB B' w v l := by
  obtain ⟨a, cap, h1, h2, h3, h4⟩ := h
  exact ⟨a, cap, h1, h2, h3, fun hl => by obtain ⟨b, off, e, hb, hc⟩ := h4 hl; exact ⟨b, off, e, by omega, hc⟩⟩
/-- The list without its first cell: l[1:]. -/
theorem ReadsB.tail_far {B : Nat} {w : World} {b off cap : Nat} {c : Cl} {l : List Cl} (hb : b < B) (hcap : (c :: l).length ≤ cap) (h56 : CapOk (c :: l).length cap)
    (h : ∀ (i : Nat) (e : Cl), (c :: l)[i]? = some e → ∀ j, j < 7 → w.cell? ⟨b, off + i * 7 + j, none⟩ = e.vals[j]?) : ReadsB B w (.slice (some ⟨b, off + 7, none⟩) l.length (cap - 1)) l := by
  simp only [List.length_cons] at hcap
  refine ⟨_, _, rfl, by omega, ⟨by have := h56.1; omega, by have := h56.2; simp only [List.length_cons] at this; omega⟩, fun _ => ⟨b, off + 7, rfl, hb, fun i e he j hj => ?_⟩⟩
  rw [← h (i + 1) e (by simpa using he) j hj]
  congr 2
  omega
theorem ReadsB.none_left {B : Nat} {w : World} (a : Option Addr) (cap : Nat) (h56 : cap ≤ maxLen) : ReadsB B w (.slice a 0 cap) [] := ⟨a, cap, rfl, by simp, ⟨h56, by simp⟩, by simp⟩

/-- v is a slice of the call's own, from block B on. -/
def Owned (w : World) (B : Nat) (v : Value) (l : List Cl) : Prop := w.ownsRow B 53 7 v l.length (cvals l)

theorem Owned.lt {w : World} {B : Nat} {v : Value} {l : List Cl} (h : Owned w B v l) {k : Nat} (hk : v.ownBlock = some k) : B ≤ k ∧ k < w.heap.size := World.ownsRow.lt h k hk
/-- The row's block bears its own kind. -/
theorem ownsRow_ty {w : World} {B e size n : Nat} {v : Value} {xs : List Value} (h : w.ownsRow B e size v n xs) {k : Nat} (hk : v.ownBlock = some k) : ∃ cs, w.heap[k]? = some (.cells cs e (0, 0)) := by
  rcases h.2 with ⟨rfl, _⟩ | ⟨g, cap, cur, rfl, _, hh, _⟩
  · simp [Value.ownBlock] at hk
  · have : g = k := by simpa [Value.ownBlock] using hk
    subst this
    exact ⟨_, hh⟩
theorem ownsRow_ne {w : World} {B e size n : Nat} {v : Value} {xs : List Value} (h : w.ownsRow B e size v n xs) {b : Nat} {cs : Array Value} {t : TypeId} {fr : Nat × Nat} (hb : w.heap[b]? = some (.cells cs t fr)) (ht : t ≠ e) : v.ownBlock ≠ some b := by
  intro hk
  obtain ⟨cs', hc⟩ := ownsRow_ty h hk
  rw [hb] at hc
  injection hc with hc
  injection hc with _ e'
  exact ht e'
theorem ownsRow_upd {S : Nat → Prop} {w w' : World} {B e size n : Nat} {v : Value} {xs : List Value} (h : w.ownsRow B e size v n xs) (hu : Upd S w w') (hs : ∀ k, v.ownBlock = some k → ¬ S k) : w'.ownsRow B e size v n xs := by
  obtain ⟨h1, h2⟩ := h
  refine ⟨h1, ?_⟩
  rcases h2 with h2 | ⟨g, cap, cur, rfl, hg, hh, r⟩
  · exact .inl h2
  · exact .inr ⟨g, cap, cur, rfl, hg, blk_upd hh hu (hs g rfl), r⟩
theorem Owned.setCell {w : World} {B : Nat} {v : Value} {l : List Cl} (h : Owned w B v l) {b : Nat} {cs : Array Value} {t : TypeId} {fr : Nat × Nat} (hb : w.heap[b]? = some (.cells cs t fr)) (ht : t ≠ 53) (i : Nat) (u : Value) : Owned (w.setCell ⟨b, i, none⟩ u) B v l :=
  ownsRow_upd h ((Upd.refl (fun k => k = b) w).setCell _ _ (fun _ => rfl)) fun k hk e => ownsRow_ne h hb ht (by rw [hk, e])

/-- What is owned reads. -/
theorem Owned.reads {w : World} {B : Nat} {v : Value} {l : List Cl} (h : Owned w B v l) (hl : l.length ≤ 1000000) : Reads w v l := by
  rcases h.2 with ⟨rfl, h0⟩ | ⟨g, cap, cur, rfl, hg, hh, h1, h2, h3, h4⟩
  · have : l = [] := List.eq_nil_of_length_eq_zero h0
    subst this
    exact ⟨none, 0, rfl, by simp, ⟨by simp, by simp⟩, by simp⟩
  · refine ⟨_, cap, rfl, h1, ⟨h2, by omega⟩, fun _ => ⟨g, 0, rfl, fun i c hi j hj => ?_⟩⟩
    have hi2 := (List.getElem?_eq_some_iff.1 hi).1
    have e := cvals_at l i c j hi hj
    rw [← h4, List.getElem?_take, if_pos (by omega)] at e
    rw [blk_cell hh, Nat.zero_add, ← e]
    simp

theorem Owned.nil (w : World) (B : Nat) : Owned w B (.slice none 0 0) [] := World.ownsRow_nil w B 53 7

end Go.Proofs.Ytpehceccnjdfeaa
