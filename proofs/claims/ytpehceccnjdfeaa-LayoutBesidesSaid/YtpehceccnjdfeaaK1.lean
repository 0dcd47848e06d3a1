import Derived.Test.YtpehceccnjdfeaaH0
import Derived.Test.YtpehceccnjdfeaaD9

section
/- Find: the program's and the reference's. -/
namespace Go.Proofs.Ytpehceccnjdfeaa
open Go.RowKit

/-- A place and whether there is one. -/
def SeenPost (w : World) (res : Int × Bool) (e : Ending) (w' : World) : Prop := e = .returned (.tuple #[.int .i64 res.1, .bool res.2]) ∧ Below w.heap.size w w'

/-- The first of the list that is asked for. -/
def placeF (q : Cl → Bool) (l : List Cl) : Int × Bool := match l.findIdx? q with | some i => ((i : Int), true) | none => (0, false)

theorem place_at {q : Cl → Bool} {l : List Cl} {j : Nat} {c : Cl} (hn : ∀ c ∈ l.take j, q c = false) (hj : l[j]? = some c) (hq : q c = true) : placeF q l = ((j : Int), true) := by
  have : l.findIdx? q = some j := by
    rw [List.findIdx?_eq_some_iff_getElem]
    obtain ⟨h, rfl⟩ := List.getElem?_eq_some_iff.1 hj
    refine ⟨h, hq, fun i hi => ?_⟩
    have := hn l[i] (List.mem_take_iff_getElem.2 ⟨i, by omega, rfl⟩)
    simp [this]
  unfold placeF
  rw [this]

theorem place_none {q : Cl → Bool} {l : List Cl} (hn : ∀ c ∈ l, q c = false) : placeF q l = (0, false) := by
  have : l.findIdx? q = none := by
    rw [List.findIdx?_eq_none_iff]; exact hn
  unfold placeF
  rw [this]

theorem place_congr {q q' : Cl → Bool} {l : List Cl} (h : ∀ c ∈ l, q c = q' c) : placeF q l = placeF q' l := by
  unfold placeF
  have : l.findIdx? q = l.findIdx? q' := by
    induction l with
    | nil => rfl
    | cons a l ih => rw [List.findIdx?_cons, List.findIdx?_cons, h a (by simp), ih fun c hc => h c (by simp [hc])]
  rw [this]

mutual
/-- What stands in a layout's list. -/
theorem lay_spot : ∀ (r : R) (d x y : Int), r.ok → ∀ c ∈ r.lay d x y, ((c.k = 1 ∧ 1 ≤ c.p ∧ c.p ≤ 4611686018427387904) ∨ ((c.k = 2 ∨ c.k = 3) ∧ c.p = 0)) ∧ (1 ≤ c.w ∧ c.w ≤ 1000 ∧ 1 ≤ c.h ∧ c.h ≤ 1000) ∧ x ≤ c.x ∧ c.x ≤ x + 1001 * r.cnt ∧ y ≤ c.y ∧ c.y ≤ y + 1001 * r.cnt
  | .mk k w h i kids, d, x, y, hok, c, hc => by
    simp only [R.ok] at hok
    rw [R.lay] at hc
    rcases List.mem_cons.1 hc with rfl | hc
    · refine ⟨?_, hok.1, by simp [R.cnt]; omega⟩
      rcases hok.2 with ⟨h1, _, h2⟩ | ⟨h1, h2, _⟩
      · exact .inl ⟨h1, h2⟩
      · exact .inr ⟨h1, h2⟩
    · rcases hok.2 with ⟨_, h1, _⟩ | ⟨_, _, _, h1, _⟩
      · subst h1; simp [layL] at hc
      · have := layL_spot kids k (d + 1) x y (fun r hr => (okL_mem h1 hr).2.2) c hc
        simp only [R.cnt]
        refine ⟨this.1, this.2.1, ?_⟩
        have h3 := this.2.2
        omega
theorem layL_spot : ∀ (l : List R) (k d x y : Int), (∀ r ∈ l, r.ok) → ∀ c ∈ layL k d x y l, ((c.k = 1 ∧ 1 ≤ c.p ∧ c.p ≤ 4611686018427387904) ∨ ((c.k = 2 ∨ c.k = 3) ∧ c.p = 0)) ∧ (1 ≤ c.w ∧ c.w ≤ 1000 ∧ 1 ≤ c.h ∧ c.h ≤ 1000) ∧ x ≤ c.x ∧ c.x ≤ x + 1001 * cntL l ∧ y ≤ c.y ∧ c.y ≤ y + 1001 * cntL l
  | [], _, _, _, _, _, c, hc => by simp [layL] at hc
  | r :: rs, k, d, x, y, h, c, hc => by
    have hr := h r (by simp)
    have hb : (1 ≤ r.w ∧ r.w ≤ 1000) ∧ 1 ≤ r.h ∧ r.h ≤ 1000 := by
      cases r; simp only [R.ok] at hr; exact ⟨⟨hr.1.1, hr.1.2.1⟩, hr.1.2.2⟩
    have hp := cnt_pos r
    rw [layL] at hc
    rcases List.mem_append.1 hc with hc | hc
    · have := lay_spot r d x y hr c hc
      simp only [cntL]
      refine ⟨this.1, this.2.1, ?_⟩
      have h3 := this.2.2
      omega
    · have := layL_spot rs k d _ _ (fun q hq => h q (by simp [hq])) c hc
      simp only [cntL]
      refine ⟨this.1, this.2.1, ?_⟩
      have h3 := this.2.2
      split at h3 <;> omega
end

/-- Find, plain. -/
def findF (l : List Cl) (p : Int) : Int × Bool := match readF l with | none => (0, false) | some _ => placeF (fun c => c.k == 1 && c.p == p) l

theorem find_law {l : List Cl} {r : R} (h : readF l = some r) (p : Int) : placeF (fun c => c.k == 1 && c.p == p) l = if idB p then placeF (fun c => c.p == p) l else (0, false) := by
  obtain ⟨rfl, hok, _⟩ := (readF_iff l r).1 h
  split
  · rename_i hp
    have := (idB_iff p).1 hp
    refine place_congr fun c hc => ?_
    rcases (lay_spot r 0 0 0 hok c hc).1 with ⟨h1, _⟩ | ⟨h1, h2⟩
    · simp [h1]
    · rw [h2, show (c.k == 1) = false by simp; omega, show ((0 : Int) == p) = false by simp; omega]; rfl
  · rename_i hp
    have hp' : ¬ (1 ≤ p ∧ p ≤ 4611686018427387904) := fun hh => hp ((idB_iff p).2 hh)
    refine place_none fun c hc => ?_
    rcases (lay_spot r 0 0 0 hok c hc).1 with ⟨h1, h2⟩ | ⟨h1, h2⟩
    · rw [show (c.p == p) = false by simp; rintro rfl; exact hp' h2]; simp
    · rw [show (c.k == 1) = false by simp; omega]; rfl

/-! ### The program's -/

set_option maxRecDepth 100000 in
theorem find_fn (c : Cl) (p : Int) (B : Nat) (W : World) (hB : B < W.heap.size) (hc : W.cell? ⟨B, 0, none⟩ = some (.int .i64 p)) :
    Calls Try.prog 88 #[.agg #[.int .i64 c.d, .int .i64 c.k, .int .i64 c.x, .int .i64 c.y, .int .i64 c.w, .int .i64 c.h, .int .i64 c.p], .pointer (some ⟨B, 0, none⟩)] W fun e w' => e = .returned (.bool (c.p == p)) ∧ Below W.heap.size W w' := by
  have hne : B ≠ W.heap.size := by omega
  go_enter Try.func88, Try.ntmps88
  go_wp2
  all_goals (go_ret; exact ⟨by simp_all, (Below.refl _ _).alloc (Nat.le_refl _) _⟩)

/-- What IndexFunc answers. -/
def ixOf (res : Int × Bool) : Int := if res.2 then res.1 else -1

set_option maxRecDepth 100000 in
theorem index87 (v : Value) (l : List Cl) (p : Int) (B : Nat) (w : World) (h : Reads w v l) (hl : l.length ≤ 64) (hB : B < w.heap.size) (hcell : w.cell? ⟨B, 0, none⟩ = some (.int .i64 p)) :
    Calls Try.prog 87 #[v, .func (.func 88) #[] #[.pointer (some ⟨B, 0, none⟩)]] w fun e w' => e = .returned (.int .i64 (ixOf (placeF (fun c => c.p == p) l))) ∧ Below w.heap.size w w' := by
  obtain ⟨a, cap, rfl, _, _, h3⟩ := h
  generalize hn : l.length = n at *
  have HN := Lib.hid hn; have H3 := Lib.hid h3; have HB := Lib.hid hB; have HC := Lib.hid hcell
  clear hn h3 hB hcell
  go_enter Try.func87, Try.ntmps87
  go_wp2_with fail
  go_loopw [5, 8] (fun _ i wr => ∃ j : Nat, j ≤ n ∧ i = .int .i64 j ∧ Hid (∀ c ∈ l.take j, (c.p == p) = false) ∧ Hid (Below w.heap.size w wr)) (fun _ i _ => n - (intOf i).toNat)
  case atStart => exact ⟨0, Nat.zero_le _, rfl, by show ∀ c ∈ _, _; simp, Below.refl _ _⟩
  case round =>
    obtain ⟨j, hj, rfl, ht, hb⟩ := hrel
    by_cases hlt : j < n
    · obtain ⟨c, hc⟩ : ∃ c, l[j]? = some c := ⟨l[j]'(by rw [HN.out]; exact hlt), by simp⟩
      obtain ⟨b, off, rfl, hcc⟩ := H3.out (by omega)
      have hbb : b < w.heap.size := World.block_lt_of_cell? w ⟨b, off + j * 7 + 0, none⟩ (u := .int .i64 c.d) (by rw [hcc j c hc 0 (by omega)]; rfl)
      have g := fun i hi => (hb.out.cell (p := ⟨b, off + j * 7 + i, none⟩) hbb).trans (hcc j c hc i hi)
      have a0 := g 0 (by omega); have a1 := g 1 (by omega); have a2 := g 2 (by omega); have a3 := g 3 (by omega); have a4 := g 4 (by omega); have a5 := g 5 (by omega); have a6 := g 6 (by omega)
      clear g
      simp only [Cl.vals, List.getElem?_cons_zero, List.getElem?_cons_succ, Nat.add_zero] at a0 a1 a2 a3 a4 a5 a6
      have hF := find_fn c p B wr (Nat.lt_of_lt_of_le HB.out hb.out.size) ((hb.out.cell (p := ⟨B, 0, none⟩) HB.out).trans HC.out)
      have hbs := hb.out.size
      cases hq : (c.p == p) with
      | true =>
        rw [hq] at hF
        have HF := Lib.hid hF; have HJ := Lib.hid hc; have HQ := Lib.hid hq
        clear hF hc hq hcc hbb
        go_wp2_with fail
        refine HF.out.mono ?_
        rintro e w' ⟨rfl, hb'⟩
        have HBN := Lib.hid (hb.out.trans (hb'.mono hbs)); clear hb'
        go_wp2_with fail
        go_ret
        exact ⟨by rw [place_at ht.out HJ.out HQ.out]; rfl, HBN.out⟩
      | false =>
        rw [hq] at hF
        have HF := Lib.hid hF; have HJ := Lib.hid hc; have HQ := Lib.hid hq
        clear hF hc hq hcc hbb
        go_wp2_with fail
        refine HF.out.mono ?_
        rintro e w' ⟨rfl, hb'⟩
        have HBN := Lib.hid (hb.out.trans (hb'.mono hbs)); clear hb'
        go_wp2_with fail
        refine ⟨⟨j + 1, hlt, num_succ j, ?_, HBN⟩, meas_lt hlt⟩
        show ∀ c ∈ _, _
        rw [take_snoc' HJ.out]
        intro d hd
        rcases List.mem_append.1 hd with hd | hd
        · exact ht.out d hd
        · rw [List.mem_singleton.1 hd]; exact HQ.out
    · go_wp2_with fail
      go_ret
      have := ht.out
      rw [List.take_of_length_le (by have := HN.out; omega)] at this
      exact ⟨by rw [place_none this]; rfl, hb.out⟩

set_option maxRecDepth 100000 in
theorem find_any (v : Value) (l : List Cl) (p : Int) (w : World) (h : Reads w v l) : Calls Try.prog 31 #[v, .int .i64 p] w fun e w' => SeenPost w (findF l p) e w' := by
  have hb1 : Below w.heap.size w (w.alloc (.cells #[.int .i64 p] 3)) := (Below.refl _ _).alloc (Nat.le_refl _) _
  have hx1 := heap_alloc_new w (.cells #[.int .i64 p] 3)
  have HREAD := read_any v l (w.alloc (.cells #[.int .i64 p] 3)) (h.below hb1)
  unfold findF
  cases hr : readF l with
  | none =>
    rw [hr] at HREAD
    have HR := Lib.hid HREAD; have HB1 := Lib.hid hb1
    clear HREAD hb1 hx1 h
    go_enter Try.func31, Try.ntmps31
    go_wp2_with fail
    refine HR.out.mono ?_
    rintro e w1 ⟨hb, rfl⟩
    have HB := Lib.hid hb; clear hb
    go_wp2_with fail
    go_ret2
    exact ⟨rfl, HB1.out.trans (HB.out.mono HB1.out.size)⟩
  | some r =>
    simp only []
    rw [hr] at HREAD
    rw [find_law hr]
    have RI := read_is hr
    have hlen := RI.len
    have hres : ∀ (i : Int), i = ixOf (placeF (fun c => c.p == p) l) → ((max i 0 = (placeF (fun c => c.p == p) l).1) ∧ (decide (0 ≤ i) = (placeF (fun c => c.p == p) l).2)) := by
      rintro i rfl
      unfold ixOf placeF
      cases l.findIdx? (fun c => c.p == p) with
      | none => exact ⟨by simp; rfl, by simp⟩
      | some i => simp
    have HR := Lib.hid HREAD; have HB1 := Lib.hid hb1; have HX1 := Lib.hid hx1; have HH := Lib.hid h
    clear HREAD hb1 hx1 h hr RI
    cases hid : idB p with
    | false =>
      go_enter Try.func31, Try.ntmps31
      go_wp2_with fail
      refine HR.out.mono ?_
      rintro e w1 ⟨hb, a, rfl, _⟩
      obtain ⟨ty, hv, _⟩ := val_parts a
      rw [hv]
      have hx := blk_below HX1.out hb
      have k0 : w1.cell? ⟨w.heap.size, 0, none⟩ = some (.int .i64 p) := blk_cell hx 0
      have HB := Lib.hid hb; clear hb hx hv
      go_wp2_with (go_at_call 64; refine (id_any _ _).mono ?_; rintro e w' ⟨rfl, rfl⟩)
      go_ret2
      exact ⟨rfl, HB1.out.trans (HB.out.mono HB1.out.size)⟩
    | true =>
      simp only [if_true]
      go_enter Try.func31, Try.ntmps31
      go_wp2_with fail
      refine HR.out.mono ?_
      rintro e w1 ⟨hb, a, rfl, _⟩
      obtain ⟨ty, hv, _⟩ := val_parts a
      rw [hv]
      have hx := blk_below HX1.out hb
      have k0 : w1.cell? ⟨w.heap.size, 0, none⟩ = some (.int .i64 p) := blk_cell hx 0
      have hbb := HB1.out.trans (hb.mono HB1.out.size)
      have hI := index87 v l p w.heap.size w1 (HH.out.below hbb) hlen (blk_lt hx) k0
      have HB := Lib.hid hbb; have HI := Lib.hid hI; clear hb hx hv hbb hI
      go_wp2_with (first
        | (go_at_call 64; refine (id_any _ _).mono ?_; rintro e w' ⟨rfl, rfl⟩)
        | (go_at_call 87; refine HI.out.mono ?_; rintro e w2 ⟨rfl, hb2⟩))
      go_ret2
      exact ⟨by
        obtain ⟨h1, h2⟩ := hres _ rfl
        simp [h1, h2], HB.out.trans (hb2.mono HB.out.size)⟩

end Go.Proofs.Ytpehceccnjdfeaa
end

section
/- The reference's Find; At: the program's and the reference's. -/
namespace Go.Proofs.Ytpehceccnjdfeaa
open Go.RowKit

theorem rfind_none (v : Value) (l : List Cl) (p : Int) (w : World) (h : Reads w v l) (hr : readF l = none) : Calls Try.prog 32 #[v, .int .i64 p] w fun e w' => SeenPost w (0, false) e w' := by
  have HT := tree_any v l w h
  rw [hr] at HT
  have HT := Lib.hid HT; clear h hr
  go_enter Try.func32, Try.ntmps32
  go_wp2_with fail
  refine HT.out.mono ?_
  rintro e w1 ⟨hb1, rfl⟩
  have HB1 := Lib.hid hb1; clear hb1
  unfold zeroNode
  go_wp2_with fail
  go_loop [8] (fun i => i = .int .i64 0) (fun _ => 0)
  case atStart => rfl
  case round =>
    subst hrel
    go_wp2_with fail
    go_ret2
    exact ⟨rfl, HB1.out.alloc HB1.out.size _⟩

set_option maxRecDepth 100000 in
theorem rfind_some (v : Value) (l : List Cl) (p : Int) (w : World) (h : Reads w v l) (r : R) (hr : readF l = some r) : Calls Try.prog 32 #[v, .int .i64 p] w fun e w' => SeenPost w (placeF (fun c => c.k == 1 && c.p == p) l) e w' := by
  have HT := tree_any v l w h
  rw [hr] at HT
  have RI := read_is hr
  have hlen := RI.len
  obtain ⟨a, cap, rfl, _, _, h3⟩ := h
  generalize hn : l.length = n at *
  have HT := Lib.hid HT; have HN := Lib.hid hn; have H3 := Lib.hid h3
  clear hn h3 RI hr
  go_enter Try.func32, Try.ntmps32
  go_wp2_with fail
  refine HT.out.mono ?_
  rintro e w1 ⟨hb1, sa, sc, rfl, _⟩
  have hb2 := hb1.alloc hb1.size (.cells #[.int .i64 r.kind, .int .i64 r.w, .int .i64 r.h, .int .i64 r.id, .slice sa r.kids.length sc] 88)
  have HB2 := Lib.hid hb2; clear hb1 hb2 HT
  go_wp2_with fail
  go_loop [8] (fun i => ∃ j : Nat, j ≤ n ∧ i = .int .i64 j ∧ Hid (∀ c ∈ l.take j, (c.k == 1 && c.p == p) = false)) (fun i => n - (intOf i).toNat)
  case atStart => exact ⟨0, Nat.zero_le _, rfl, by show ∀ c ∈ _, _; simp⟩
  case round =>
    obtain ⟨j, hj, rfl, ht⟩ := hrel
    by_cases hlt : j < n
    · obtain ⟨c, hc⟩ : ∃ c, l[j]? = some c := ⟨l[j]'(by rw [HN.out]; exact hlt), by simp⟩
      obtain ⟨b, off, rfl, hcc⟩ := H3.out (by omega)
      have hbb : b < w.heap.size := World.block_lt_of_cell? w ⟨b, off + j * 7 + 0, none⟩ (u := .int .i64 c.d) (by rw [hcc j c hc 0 (by omega)]; rfl)
      have g := fun i hi => (HB2.out.cell (p := ⟨b, off + j * 7 + i, none⟩) hbb).trans (hcc j c hc i hi)
      have a1 := g 1 (by omega); have a6 := g 6 (by omega)
      clear g
      simp only [Cl.vals, List.getElem?_cons_zero, List.getElem?_cons_succ, Nat.add_zero] at a1 a6
      have HJ := Lib.hid hc
      clear hc hcc hbb
      have hsnoc : (c.k == 1 && c.p == p) = false → ∀ d ∈ l.take (j + 1), (d.k == 1 && d.p == p) = false := by
        intro hq
        rw [take_snoc' HJ.out]
        intro d hd
        rcases List.mem_append.1 hd with hd | hd
        · exact ht.out d hd
        · rw [List.mem_singleton.1 hd]; exact hq
      have HS := Lib.hid hsnoc; clear hsnoc
      cases hk : (c.k == 1) with
      | true =>
        cases hp : (c.p == p) with
        | true =>
          have HQ : Hid ((c.k == 1 && c.p == p) = true) := by show _ = _; rw [hk, hp]; rfl
          go_wp2_with fail
          go_ret2
          exact ⟨by rw [place_at (q := fun c => c.k == 1 && c.p == p) ht.out HJ.out HQ.out]; rfl, HB2.out⟩
        | false =>
          have HQ : Hid ((c.k == 1 && c.p == p) = false) := by show _ = _; rw [hk, hp]; rfl
          go_wp2_with fail
          exact ⟨⟨j + 1, hlt, num_succ j, HS.out HQ.out⟩, meas_lt hlt⟩
      | false =>
        have HQ : Hid ((c.k == 1 && c.p == p) = false) := by show _ = _; rw [hk]; rfl
        go_wp2_with fail
        exact ⟨⟨j + 1, hlt, num_succ j, HS.out HQ.out⟩, meas_lt hlt⟩
    · go_wp2_with fail
      go_ret2
      have := ht.out
      rw [List.take_of_length_le (by have := HN.out; omega)] at this
      exact ⟨by rw [place_none (q := fun c => c.k == 1 && c.p == p) this]; rfl, HB2.out⟩

theorem rfind_any (v : Value) (l : List Cl) (p : Int) (w : World) (h : Reads w v l) : Calls Try.prog 32 #[v, .int .i64 p] w fun e w' => SeenPost w (findF l p) e w' := by
  unfold findF
  cases hr : readF l with
  | none => exact rfind_none v l p w h hr
  | some r => exact rfind_some v l p w h r hr

end Go.Proofs.Ytpehceccnjdfeaa
end
