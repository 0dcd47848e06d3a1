/- The plain functions on trees of cells that the walks speak of. No program here. -/
namespace Go.Proofs.Ytpehceccnjdfeaa

/-- A cell of a layout's list. -/
structure Cl where
  d : Int
  k : Int
  x : Int
  y : Int
  w : Int
  h : Int
  p : Int
  deriving DecidableEq, Inhabited

/-- The three small tests. -/
def sideB (n : Int) : Bool := decide (1 ≤ n) && decide (n ≤ 1000)
def idB (n : Int) : Bool := decide (1 ≤ n) && decide (n ≤ 4611686018427387904)
def kindB (n : Int) : Bool := decide (n = 2) || decide (n = 3)
theorem sideB_iff (n : Int) : sideB n = true ↔ 1 ≤ n ∧ n ≤ 1000 := by simp [sideB]
theorem idB_iff (n : Int) : idB n = true ↔ 1 ≤ n ∧ n ≤ 4611686018427387904 := by simp [idB]
theorem kindB_iff (n : Int) : kindB n = true ↔ n = 2 ∨ n = 3 := by simp [kindB]

/-- Are two cells one? -/
def ceq (a b : Cl) : Bool := decide (a = b)
theorem ceq_true {a b : Cl} (h : ceq a b = true) : a = b := of_decide_eq_true h
theorem ceq_false {a b : Cl} (h : ceq a b = false) : a ≠ b := of_decide_eq_false h

/-- A tree of cells: kind, width, height, id, children. -/
inductive R where
  | mk (kind w h id : Int) (kids : List R)
  deriving Inhabited

namespace R
def kind : R → Int | mk k _ _ _ _ => k
def w : R → Int | mk _ w _ _ _ => w
def h : R → Int | mk _ _ h _ _ => h
def id : R → Int | mk _ _ _ i _ => i
def kids : R → List R | mk _ _ _ _ ks => ks
end R

/-- The extent in a direction. -/
def ext (dir w h : Int) : Int := if dir = 2 then w else h
def R.ext (dir : Int) (r : R) : Int := Go.Proofs.Ytpehceccnjdfeaa.ext dir r.w r.h
/-- Another extent. -/
def R.setExt (dir v : Int) : R → R | .mk k w h i ks => if dir = 2 then .mk k v h i ks else .mk k w v i ks

def minAll (l : List Int) : Int := l.foldl min 1000
theorem minAll_snoc (l : List Int) (x : Int) : minAll (l ++ [x]) = min (minAll l) x := by simp [minAll]

mutual
def R.room (dir : Int) : R → Int
  | .mk k w h _ kids => if k = 1 then Go.Proofs.Ytpehceccnjdfeaa.ext dir w h - 1 else if k = dir then (rooms dir kids).sum else minAll (rooms dir kids)
def rooms (dir : Int) : List R → List Int
  | [] => []
  | r :: rs => r.room dir :: rooms dir rs
end

theorem rooms_eq (dir : Int) (l : List R) : rooms dir l = l.map (R.room dir) := by
  induction l with
  | nil => rfl
  | cons r rs ih => simp [rooms, ih]

mutual
/-- The ids of the panes. -/
def R.ids : R → List Int
  | .mk k _ _ i kids => if k = 1 then [i] else idsL kids
def idsL : List R → List Int
  | [] => []
  | r :: rs => r.ids ++ idsL rs
end

mutual
/-- The list of a tree. -/
def R.lay (d x y : Int) : R → List Cl
  | .mk k w h i kids => ⟨d, k, x, y, w, h, i⟩ :: layL k (d + 1) x y kids
def layL (k d x y : Int) : List R → List Cl
  | [] => []
  | r :: rs => r.lay d x y ++ layL k d (if k = 2 then x + r.w + 1 else x) (if k = 2 then y else y + r.h + 1) rs
end

/-- Where the child behind these begins. -/
def nextX (k x : Int) : List R → Int
  | [] => x
  | r :: rs => nextX k (if k = 2 then x + r.w + 1 else x) rs
def nextY (k y : Int) : List R → Int
  | [] => y
  | r :: rs => nextY k (if k = 2 then y else y + r.h + 1) rs

theorem nextX_snoc (k : Int) (l : List R) (r : R) : ∀ x, nextX k x (l ++ [r]) = if k = 2 then nextX k x l + r.w + 1 else nextX k x l := by
  induction l with
  | nil => intro x; simp [nextX]
  | cons a l ih => intro x; simp [nextX, ih]
theorem nextY_snoc (k : Int) (l : List R) (r : R) : ∀ y, nextY k y (l ++ [r]) = if k = 2 then nextY k y l else nextY k y l + r.h + 1 := by
  induction l with
  | nil => intro x; simp [nextY]
  | cons a l ih => intro x; simp [nextY, ih]
theorem layL_append (k d : Int) (l m : List R) : ∀ x y, layL k d x y (l ++ m) = layL k d x y l ++ layL k d (nextX k x l) (nextY k y l) m := by
  induction l with
  | nil => intro x y; simp [layL, nextX, nextY]
  | cons a l ih => intro x y; simp [layL, nextX, nextY, ih]

mutual
def R.depth : R → Nat | .mk _ _ _ _ kids => depthL kids + 1
def depthL : List R → Nat
  | [] => 0
  | r :: rs => max r.depth (depthL rs)
end
theorem depth_mem {r : R} {l : List R} (h : r ∈ l) : r.depth ≤ depthL l := by
  induction l with
  | nil => cases h
  | cons a l ih =>
    simp only [depthL]
    rcases List.mem_cons.1 h with rfl | h
    · omega
    · have := ih h; omega

mutual
/-- Each extent lies between these bounds. -/
def R.Bd (lo hi : Int) : R → Prop
  | .mk _ w h _ kids => lo ≤ w ∧ w ≤ hi ∧ lo ≤ h ∧ h ≤ hi ∧ BdL lo hi kids
def BdL (lo hi : Int) : List R → Prop
  | [] => True
  | r :: rs => r.Bd lo hi ∧ BdL lo hi rs
end
theorem BdL_mem {lo hi : Int} {r : R} {l : List R} (h : BdL lo hi l) (m : r ∈ l) : r.Bd lo hi := by
  induction l with
  | nil => cases m
  | cons a l ih =>
    obtain ⟨h1, h2⟩ := h
    rcases List.mem_cons.1 m with rfl | m
    · exact h1
    · exact ih h2 m

mutual
/-- How many cells. -/
def R.cnt : R → Nat | .mk _ _ _ _ kids => cntL kids + 1
def cntL : List R → Nat
  | [] => 0
  | r :: rs => r.cnt + cntL rs
end
theorem cntL_append (l m : List R) : cntL (l ++ m) = cntL l + cntL m := by
  induction l with
  | nil => simp [cntL]
  | cons a l ih => simp [cntL, ih]; omega
theorem cnt_pos (r : R) : 0 < r.cnt := by cases r; simp [R.cnt]

theorem cntL_length (l : List R) : l.length ≤ cntL l := by
  induction l with
  | nil => simp [cntL]
  | cons a l ih => have := cnt_pos a; simp only [List.length_cons, cntL]; omega

theorem take_snoc' {α : Type} {l : List α} {j : Nat} {r : α} (h : l[j]? = some r) : l.take (j + 1) = l.take j ++ [r] := by
  rw [List.take_add_one, h]; rfl
theorem List.set_getElem?_self' {α : Type} {l : List α} {j : Nat} {r : α} (h : l[j]? = some r) : l.set j r = l := by
  apply List.ext_getElem?
  intro i
  by_cases e : i = j
  · subst e
    rw [List.getElem?_set]
    have := (List.getElem?_eq_some_iff.1 h).1
    simp [this, h]
    obtain ⟨_, e⟩ := List.getElem?_eq_some_iff.1 h
    exact e.symm
  · rw [List.getElem?_set_ne (Ne.symm e)]
theorem take_split {α : Type} {l : List α} {j : Nat} {r : α} (h : l[j]? = some r) : l = l.take j ++ r :: l.drop (j + 1) := by
  have hj := (List.getElem?_eq_some_iff.1 h)
  obtain ⟨h1, rfl⟩ := hj
  simp

mutual
theorem R.lay_length : ∀ (r : R) (d x y : Int), (r.lay d x y).length = r.cnt
  | .mk k w h i kids, d, x, y => by simp only [R.lay, R.cnt, List.length_cons, layL_length kids]
theorem layL_length : ∀ (l : List R) (k d x y : Int), (layL k d x y l).length = cntL l
  | [], _, _, _, _ => rfl
  | r :: rs, k, d, x, y => by simp only [layL, cntL, List.length_append, R.lay_length r, layL_length rs]
end

theorem next_bd {k : Int} (l : List R) : ∀ (x : Int), BdL 0 1000 l → x ≤ nextX k x l ∧ nextX k x l ≤ x + 1001 * cntL l := by
  induction l with
  | nil => intro x _; simp [nextX, cntL]
  | cons r rs ih =>
    intro x ⟨h1, h2⟩
    have hc := cnt_pos r
    have hb : 0 ≤ r.w ∧ r.w ≤ 1000 := by cases r; simp only [R.Bd] at h1; exact ⟨h1.1, h1.2.1⟩
    simp only [nextX, cntL]
    split
    · have := ih (x + r.w + 1) h2; omega
    · have := ih x h2; omega
theorem nexty_bd {k : Int} (l : List R) : ∀ (y : Int), BdL 0 1000 l → y ≤ nextY k y l ∧ nextY k y l ≤ y + 1001 * cntL l := by
  induction l with
  | nil => intro x _; simp [nextY, cntL]
  | cons r rs ih =>
    intro x ⟨h1, h2⟩
    have hc := cnt_pos r
    have hb : 0 ≤ r.h ∧ r.h ≤ 1000 := by cases r; simp only [R.Bd] at h1; exact ⟨h1.2.2.1, h1.2.2.2.1⟩
    simp only [nextY, cntL]
    split
    · have := ih x h2; omega
    · have := ih (x + r.h + 1) h2; omega
theorem BdL_append {lo hi : Int} (l m : List R) : BdL lo hi (l ++ m) ↔ BdL lo hi l ∧ BdL lo hi m := by
  induction l with
  | nil => simp [BdL]
  | cons a l ih => simp [BdL, ih, and_assoc]

end Go.Proofs.Ytpehceccnjdfeaa
