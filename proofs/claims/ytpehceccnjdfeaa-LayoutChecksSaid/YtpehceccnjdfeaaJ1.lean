/- The reference's pair. -/
import Derived.Test.YtpehceccnjdfeaaJ0
namespace Go.Proofs.Ytpehceccnjdfeaa
open Go.RowKit

/-- A node of a kind with two children. -/
def pairF (kind : Int) (p q : R) : R := .mk kind (if kind = 2 then p.w + q.w + 1 else p.w) (if kind = 2 then p.h else p.h + q.h + 1) 0 (joinedF (joinedF [] kind p) kind q)

/-- A node that a call gives: in blocks that it had, or in new ones. -/
def NodePost (w : World) (S : Nat → Prop) (r : R) (e : Ending) (w' : World) : Prop :=
  ∃ a c, e = .returned (.agg #[.int .i64 r.kind, .int .i64 r.w, .int .i64 r.h, .int .i64 r.id, .slice a r.kids.length c]) ∧ NKS (fun b => (S b ∨ w.heap.size ≤ b) ∧ b < w'.heap.size) w' (.slice a r.kids.length c) r ∧ Below w.heap.size w w'

theorem joined_len (rs : List R) (kind : Int) (k : R) : (joinedF rs kind k).length ≤ rs.length + k.kids.length + 1 := by
  unfold joinedF; split <;> simp <;> omega

/-- The first child joined. -/
theorem pair_one {w W : World} {S : Nat → Prop} {kind : Int} {p : R} {sa : Option Addr} {n sc : Nat} (hn : p.kids.length = n) (hk : NKS S w (.slice sa n sc) p) (hS : ∀ b, S b → b < w.heap.size) (hb : Below w.heap.size w W) (hW : w.heap.size + 4 ≤ W.heap.size) (hlen : n ≤ 900) (hkk : p.kind = kind → 0 < n) :
    Calls Try.prog 127 #[.slice none 0 0, .int .i64 kind, .agg #[.int .i64 p.kind, .int .i64 p.w, .int .i64 p.h, .int .i64 p.id, .slice sa n sc]] W fun e w2 => ∃ a1 c1, e = .returned (.slice a1 (joinedF [] kind p).length c1) ∧ NOwn w2 (w.heap.size + 4) S (.slice a1 (joinedF [] kind p).length c1) (joinedF [] kind p) ∧ Upd (fun _ => False) W w2 := by
  refine (joined_any (w.heap.size + 4) S (.slice none 0 0) [] kind p sa n sc W hn (NOwn.nil _ _ _) (Lib.hid (hk.upd (fun b hb => ⟨hb, by simp [Value.ownBlock]⟩) (fun b hb' => hb.block b (hS b hb')))) (Lib.hid fun b hb' => by have := hS b hb'; omega) hW (by simp; omega) hkk).mono ?_
  rintro e w2 ⟨v', rfl, h1, h2, h3⟩
  obtain ⟨a1, c1, rfl⟩ := h1.slice
  exact ⟨a1, c1, rfl, h1, h2.mono fun _ _ e => by cases e⟩

/-- The second one. -/
theorem pair_two {w W : World} {S : Nat → Prop} {kind : Int} {q : R} {rs : List R} {sa a1 : Option Addr} {n sc m c1 : Nat} (hm : rs.length = m) (hn : q.kids.length = n) (hk : NKS S w (.slice sa n sc) q) (hS : ∀ b, S b → b < w.heap.size) (hb : Below w.heap.size w W) (hN : NOwn W (w.heap.size + 4) S (.slice a1 m c1) rs) (hW : w.heap.size + 4 ≤ W.heap.size) (hlen : m + n ≤ 990) (hkk : q.kind = kind → 0 < n) :
    Calls Try.prog 127 #[.slice a1 m c1, .int .i64 kind, .agg #[.int .i64 q.kind, .int .i64 q.w, .int .i64 q.h, .int .i64 q.id, .slice sa n sc]] W fun e w2 => ∃ a2 c2, e = .returned (.slice a2 (joinedF rs kind q).length c2) ∧ NOwn w2 (w.heap.size + 4) S (.slice a2 (joinedF rs kind q).length c2) (joinedF rs kind q) ∧ Upd (fun b => w.heap.size + 4 ≤ b) W w2 := by
  refine (joined_any (w.heap.size + 4) S (.slice a1 m c1) rs kind q sa n sc W hn (Lib.hid hN) (Lib.hid (hk.upd (fun b hb' => ⟨hb', fun e => by have := (hN.lt e).1; have := hS b hb'; omega⟩) (fun b hb' => hb.block b (hS b hb')))) (Lib.hid fun b hb' => by have := hS b hb'; omega) hW (by omega) hkk).mono ?_
  rintro e w2 ⟨v', rfl, h1, h2, h3⟩
  obtain ⟨a2, c2, rfl⟩ := h1.slice
  exact ⟨a2, c2, rfl, h1, h2.mono fun k _ e => (hN.lt e).1⟩

theorem four_allocs (w : World) (o1 o2 o3 o4 : Obj) : ((((w.alloc o1).alloc o2).alloc o3).alloc o4).heap[w.heap.size]? = some o1 ∧ ((((w.alloc o1).alloc o2).alloc o3).alloc o4).heap[w.heap.size + 1]? = some o2 ∧ ((((w.alloc o1).alloc o2).alloc o3).alloc o4).heap[w.heap.size + 1 + 1]? = some o3 ∧
    ((((w.alloc o1).alloc o2).alloc o3).alloc o4).heap[w.heap.size + 1 + 1 + 1]? = some o4 ∧ Below w.heap.size w ((((w.alloc o1).alloc o2).alloc o3).alloc o4) ∧ w.heap.size + 4 ≤ ((((w.alloc o1).alloc o2).alloc o3).alloc o4).heap.size := by
  have e1 := heap_alloc_new w o1
  have e2 := heap_alloc_new (w.alloc o1) o2
  have e3 := heap_alloc_new ((w.alloc o1).alloc o2) o3
  have e4 := heap_alloc_new (((w.alloc o1).alloc o2).alloc o3) o4
  simp only [World.size_alloc] at e2 e3 e4
  exact ⟨blk_alloc (blk_alloc (blk_alloc e1 _) _) _, blk_alloc (blk_alloc e2 _) _, blk_alloc e3 _, e4, ((((Below.refl _ _).alloc (Nat.le_refl _) _).alloc (by simp) _).alloc (by simp; omega) _).alloc (by simp; omega) _, by simp⟩

theorem pair_end {w w5 w9 : World} {S : Nat → Prop} {kind W H : Int} {rs : List R} {a : Option Addr} {c m : Nat} (hm : rs.length = m) (hS : ∀ b, S b → b < w.heap.size) (hN : NOwn w5 (w.heap.size + 4) S (.slice a m c) rs) (hb : Below w.heap.size w w5) (hu : Upd (fun b => w.heap.size ≤ b ∧ b < w.heap.size + 4) w5 w9) :
    NodePost w S (.mk kind W H 0 rs) (.returned (.agg #[.int .i64 kind, .int .i64 W, .int .i64 H, .int .i64 0, .slice a m c])) w9 := by
  subst hm
  have s5 := hb.size
  have s9 := hu.size
  have hN9 : NOwn w9 (w.heap.size + 4) S (.slice a rs.length c) rs := hN.upd hu (fun b hb' _ => ⟨by have := hS b hb'; omega, by have := hS b hb'; omega⟩) (fun b hb' => hb') (fun b hb' => by have := (hN.lt hb').1; omega)
  exact ⟨a, c, rfl, hN9.nks _ _ _ _ (fun b hb' => ⟨.inl hb', by have := hS b hb'; omega⟩) (fun b hb' => ⟨.inr (by have := (hN.lt hb').1; omega), by have := (hN.lt hb').2; omega⟩), hb.trans (hu.below _ hb.size (fun k _ e => e.1))⟩

set_option maxRecDepth 100000 in
set_option maxHeartbeats 1000000 in
theorem pair_false (S : Nat → Prop) (kind : Int) (x y : R) (sa sb : Option Addr) (n m sc sd : Nat) (w : World) (hn : Hid (x.kids.length = n)) (hm : Hid (y.kids.length = m)) (hx : Hid (NKS S w (.slice sa n sc) x)) (hy : Hid (NKS S w (.slice sb m sd) y)) (hS : Hid (∀ b, S b → b < w.heap.size))
    (hn9 : n ≤ 400) (hm9 : m ≤ 400) (hx1 : -1000000 ≤ x.w ∧ x.w ≤ 1000000) (hx2 : -1000000 ≤ x.h ∧ x.h ≤ 1000000) (hy1 : -1000000 ≤ y.w ∧ y.w ≤ 1000000) (hy2 : -1000000 ≤ y.h ∧ y.h ≤ 1000000) (hxk : Hid (x.kind = kind → 0 < n)) (hyk : Hid (y.kind = kind → 0 < m)) :
    Calls Try.prog 99 #[.int .i64 kind, .agg #[.int .i64 x.kind, .int .i64 x.w, .int .i64 x.h, .int .i64 x.id, .slice sa n sc], .agg #[.int .i64 y.kind, .int .i64 y.w, .int .i64 y.h, .int .i64 y.id, .slice sb m sd], .bool false] w fun e w' => NodePost w S (pairF kind x y) e w' := by
  obtain ⟨hx1, hx1'⟩ := hx1; obtain ⟨hx2, hx2'⟩ := hx2; obtain ⟨hy1, hy1'⟩ := hy1; obtain ⟨hy2, hy2'⟩ := hy2
  have hl1 := joined_len [] kind x
  have hl2 := joined_len (joinedF [] kind x) kind y
  rw [hn.out] at hl1
  rw [hm.out] at hl2
  simp only [List.length_nil, Nat.zero_add] at hl1
  obtain ⟨ww, hww⟩ : ∃ ww, ww = (if kind = 2 then x.w + y.w + 1 else x.w) := ⟨_, rfl⟩
  obtain ⟨hh, hhh⟩ : ∃ hh, hh = (if kind = 2 then x.h else x.h + y.h + 1) := ⟨_, rfl⟩
  have hpf : pairF kind x y = .mk kind ww hh 0 (joinedF (joinedF [] kind x) kind y) := by rw [hww, hhh]; rfl
  rw [hpf]
  have HJ1 := Lib.hid (fun W hb hW => pair_one (w := w) (W := W) (S := S) (kind := kind) (p := x) (sa := sa) (n := n) (sc := sc) hn.out hx.out hS.out hb hW (by omega) hxk.out)
  have HJ2 := Lib.hid (fun W a1 c1 hb hN hW => pair_two (w := w) (W := W) (S := S) (kind := kind) (q := y) (rs := joinedF [] kind x) (sa := sb) (a1 := a1) (n := m) (sc := sd) (m := (joinedF [] kind x).length) (c1 := c1) rfl hm.out hy.out hS.out hb hN hW (by omega) hyk.out)
  have HE := Lib.hid (fun w5 w9 a c hN hb hu => pair_end (w := w) (w5 := w5) (w9 := w9) (S := S) (kind := kind) (W := ww) (H := hh) (rs := joinedF (joinedF [] kind x) kind y) (a := a) (c := c) (m := (joinedF (joinedF [] kind x) kind y).length) rfl hS.out hN hb hu)
  clear hpf
  generalize joinedF (joinedF [] kind x) kind y = r2 at *
  generalize joinedF [] kind x = r1 at *
  rcases (by by_cases h : kind = 2 <;> simp [h] : ((kind == 2) = true ∧ kind = 2) ∨ ((kind == 2) = false ∧ kind ≠ 2)) with ⟨hk, hk2⟩ | ⟨hk, hk2⟩
  all_goals
    first | rw [if_pos hk2] at hww hhh | rw [if_neg hk2] at hww hhh
    clear hk2
    subst hww hhh
    go_enter Try.func99, Try.ntmps99
    go_wp2_with fail
    refine (HJ1.out _ (four_allocs w _ _ _ _).2.2.2.2.1 (four_allocs w _ _ _ _).2.2.2.2.2).mono ?_
    rintro e w2 ⟨a1, c1, rfl, hN1, hu1⟩
    have u2 := blk_upd (four_allocs w _ _ _ _).2.1 hu1 (fun h => h)
    have u3 := blk_upd (four_allocs w _ _ _ _).2.2.1 hu1 (fun h => h)
    have u4 := blk_upd (four_allocs w _ _ _ _).2.2.2.1 hu1 (fun h => h)
    have hb2 := (four_allocs w _ _ _ _).2.2.2.2.1.trans (hu1.belowNone.mono (four_allocs w _ _ _ _).2.2.2.2.1.size)
    have hs2 := hu1.size
    have hl4 := blk_lt u4
    have x4 : w2.cell? ⟨w.heap.size + 1 + 1 + 1, 4, none⟩ = some (.slice none 0 0) := blk_cell u4 4
    have y4 := blk_free u4 4
    have z0 : w2.cell? ⟨w.heap.size + 1, 0, none⟩ = some (.int .i64 y.kind) := blk_cell u2 0
    have z1 : w2.cell? ⟨w.heap.size + 1, 1, none⟩ = some (.int .i64 y.w) := blk_cell u2 1
    have z2 : w2.cell? ⟨w.heap.size + 1, 2, none⟩ = some (.int .i64 y.h) := blk_cell u2 2
    have z3 : w2.cell? ⟨w.heap.size + 1, 3, none⟩ = some (.int .i64 y.id) := blk_cell u2 3
    have z4 : w2.cell? ⟨w.heap.size + 1, 4, none⟩ = some (.slice sb m sd) := blk_cell u2 4
    have HN1 := Lib.hid hN1; have HB2 := Lib.hid hb2; have U3 := Lib.hid u3; have U4 := Lib.hid u4
    clear hN1 hb2 u2 u3 u4 hu1 HJ1
    go_wp2_with fail
    have hW5 : Below w.heap.size w (w2.setCell ⟨w.heap.size + 1 + 1 + 1, 4, none⟩ (.slice a1 r1.length c1)) := HB2.out.setCell (by simp only []; omega) _
    have hu5 : Upd (fun b => b = w.heap.size + 1 + 1 + 1) w2 (w2.setCell ⟨w.heap.size + 1 + 1 + 1, 4, none⟩ (.slice a1 r1.length c1)) := (Upd.refl _ _).setCell _ _ (fun _ => rfl)
    have hN5 := HN1.out.upd (S' := S) hu5 (fun b hb' _ => ⟨by have := hS.out b hb'; omega, by have := hS.out b hb'; omega⟩) (fun b hb' => hb') (fun b hb' => by have := (HN1.out.lt hb').1; omega)
    have t3 := blk_upd U3.out hu5 (by omega)
    have t4 := blk_set U4.out 4 (.slice a1 r1.length c1)
    refine (HJ2.out _ a1 c1 hW5 hN5 (by rw [World.size_setCell]; omega)).mono ?_
    rintro e w6 ⟨a2, c2, rfl, hN6, hu6⟩
    have v3 := blk_upd t3 hu6 (by omega)
    have v4 := blk_upd t4 hu6 (by omega)
    have hb6 := hW5.trans (hu6.below _ hW5.size (fun k _ e => by omega))
    have m0 : w6.cell? ⟨w.heap.size + 1 + 1 + 1, 0, none⟩ = some (.int .i64 kind) := blk_cell v4 0
    have m1 : w6.cell? ⟨w.heap.size + 1 + 1 + 1, 1, none⟩ = some _ := blk_cell v4 1
    have m2 : w6.cell? ⟨w.heap.size + 1 + 1 + 1, 2, none⟩ = some _ := blk_cell v4 2
    have m3 : w6.cell? ⟨w.heap.size + 1 + 1 + 1, 3, none⟩ = some (.int .i64 0) := blk_cell v4 3
    have m4 : w6.cell? ⟨w.heap.size + 1 + 1 + 1, 4, none⟩ = some (.slice a1 r1.length c1) := blk_cell v4 4
    have g4 := blk_free v4 4
    have p0 : w6.cell? ⟨w.heap.size + 1 + 1, 0, none⟩ = some (.int .i64 0) := blk_cell v3 0
    have p1 : w6.cell? ⟨w.heap.size + 1 + 1, 1, none⟩ = some (.int .i64 0) := blk_cell v3 1
    have p2 : w6.cell? ⟨w.heap.size + 1 + 1, 2, none⟩ = some (.int .i64 0) := blk_cell v3 2
    have p3 : w6.cell? ⟨w.heap.size + 1 + 1, 3, none⟩ = some (.int .i64 0) := blk_cell v3 3
    have p4 : w6.cell? ⟨w.heap.size + 1 + 1, 4, none⟩ = some (.slice none 0 0) := blk_cell v3 4
    have f0 := blk_free v3 0
    have f1 := blk_free v3 1
    have f2 := blk_free v3 2
    have f3 := blk_free v3 3
    have f4 := blk_free v3 4
    have hl6 := blk_lt v4
    have HN6 := Lib.hid hN6; have HB6 := Lib.hid hb6; have V3 := Lib.hid v3
    clear hN6 hb6 v3 v4 hu6 t3 t4 hN5 hu5 hW5 HJ2 x4 y4 z0 z1 z2 z3 z4
    go_wp2_with fail
    (try simp only [Exit.inBlock, Exit.then])
    have hs5 := fun v1 v2 => set5 (w := w6.setCell ⟨w.heap.size + 1 + 1 + 1, 4, none⟩ (.slice a2 r2.length c2)) (b := w.heap.size + 1 + 1) (t := 88) (blk_far V3.out _ _ (by simp only []; omega)) rfl (.int .i64 kind) v1 v2 (.int .i64 0) (.slice a2 r2.length c2)
    refine bodyPost_ret (res_node1 rfl _ _ (w.heap.size + 1 + 1) _ rfl (hs5 _ _).1 rfl) rfl ?_
    exact HE.out w6 _ a2 c2 HN6.out HB6.out (((Upd.refl (fun b => w.heap.size ≤ b ∧ b < w.heap.size + 4) w6).setCell ⟨w.heap.size + 1 + 1 + 1, 4, none⟩ (.slice a2 r2.length c2) (fun _ => by simp only []; omega)).then_ (hs5 _ _).2 (fun k _ e => by omega))

set_option maxRecDepth 100000 in
set_option maxHeartbeats 1000000 in
theorem pair_true (S : Nat → Prop) (kind : Int) (x y : R) (sa sb : Option Addr) (n m sc sd : Nat) (w : World) (hn : Hid (x.kids.length = n)) (hm : Hid (y.kids.length = m)) (hx : Hid (NKS S w (.slice sa n sc) x)) (hy : Hid (NKS S w (.slice sb m sd) y)) (hS : Hid (∀ b, S b → b < w.heap.size))
    (hn9 : n ≤ 400) (hm9 : m ≤ 400) (hx1 : -1000000 ≤ x.w ∧ x.w ≤ 1000000) (hx2 : -1000000 ≤ x.h ∧ x.h ≤ 1000000) (hy1 : -1000000 ≤ y.w ∧ y.w ≤ 1000000) (hy2 : -1000000 ≤ y.h ∧ y.h ≤ 1000000) (hxk : Hid (x.kind = kind → 0 < n)) (hyk : Hid (y.kind = kind → 0 < m)) :
    Calls Try.prog 99 #[.int .i64 kind, .agg #[.int .i64 x.kind, .int .i64 x.w, .int .i64 x.h, .int .i64 x.id, .slice sa n sc], .agg #[.int .i64 y.kind, .int .i64 y.w, .int .i64 y.h, .int .i64 y.id, .slice sb m sd], .bool true] w fun e w' => NodePost w S (pairF kind y x) e w' := by
  obtain ⟨hx1, hx1'⟩ := hx1; obtain ⟨hx2, hx2'⟩ := hx2; obtain ⟨hy1, hy1'⟩ := hy1; obtain ⟨hy2, hy2'⟩ := hy2
  have hl1 := joined_len [] kind y
  have hl2 := joined_len (joinedF [] kind y) kind x
  rw [hm.out] at hl1
  rw [hn.out] at hl2
  simp only [List.length_nil, Nat.zero_add] at hl1
  obtain ⟨ww, hww⟩ : ∃ ww, ww = (if kind = 2 then y.w + x.w + 1 else y.w) := ⟨_, rfl⟩
  obtain ⟨hh, hhh⟩ : ∃ hh, hh = (if kind = 2 then y.h else y.h + x.h + 1) := ⟨_, rfl⟩
  have hpf : pairF kind y x = .mk kind ww hh 0 (joinedF (joinedF [] kind y) kind x) := by rw [hww, hhh]; rfl
  rw [hpf]
  have HJ1 := Lib.hid (fun W hb hW => pair_one (w := w) (W := W) (S := S) (kind := kind) (p := y) (sa := sb) (n := m) (sc := sd) hm.out hy.out hS.out hb hW (by omega) hyk.out)
  have HJ2 := Lib.hid (fun W a1 c1 hb hN hW => pair_two (w := w) (W := W) (S := S) (kind := kind) (q := x) (rs := joinedF [] kind y) (sa := sa) (a1 := a1) (n := n) (sc := sc) (m := (joinedF [] kind y).length) (c1 := c1) rfl hn.out hx.out hS.out hb hN hW (by omega) hxk.out)
  have HE := Lib.hid (fun w5 w9 a c hN hb hu => pair_end (w := w) (w5 := w5) (w9 := w9) (S := S) (kind := kind) (W := ww) (H := hh) (rs := joinedF (joinedF [] kind y) kind x) (a := a) (c := c) (m := (joinedF (joinedF [] kind y) kind x).length) rfl hS.out hN hb hu)
  clear hpf
  generalize joinedF (joinedF [] kind y) kind x = r2 at *
  generalize joinedF [] kind y = r1 at *
  rcases (by by_cases h : kind = 2 <;> simp [h] : ((kind == 2) = true ∧ kind = 2) ∨ ((kind == 2) = false ∧ kind ≠ 2)) with ⟨hk, hk2⟩ | ⟨hk, hk2⟩
  all_goals
    first | rw [if_pos hk2] at hww hhh | rw [if_neg hk2] at hww hhh
    clear hk2
    subst hww hhh
    go_enter Try.func99, Try.ntmps99
    go_wp2_with fail
    refine (HJ1.out _ (four_allocs w _ _ _ _).2.2.2.2.1 (four_allocs w _ _ _ _).2.2.2.2.2).mono ?_
    rintro e w2 ⟨a1, c1, rfl, hN1, hu1⟩
    have u2 := blk_upd (four_allocs w _ _ _ _).2.1 hu1 (fun h => h)
    have u3 := blk_upd (four_allocs w _ _ _ _).2.2.1 hu1 (fun h => h)
    have u4 := blk_upd (four_allocs w _ _ _ _).2.2.2.1 hu1 (fun h => h)
    have hb2 := (four_allocs w _ _ _ _).2.2.2.2.1.trans (hu1.belowNone.mono (four_allocs w _ _ _ _).2.2.2.2.1.size)
    have hs2 := hu1.size
    have hl4 := blk_lt u4
    have x4 : w2.cell? ⟨w.heap.size + 1 + 1 + 1, 4, none⟩ = some (.slice none 0 0) := blk_cell u4 4
    have y4 := blk_free u4 4
    have z0 : w2.cell? ⟨w.heap.size + 1, 0, none⟩ = some (.int .i64 x.kind) := blk_cell u2 0
    have z1 : w2.cell? ⟨w.heap.size + 1, 1, none⟩ = some (.int .i64 x.w) := blk_cell u2 1
    have z2 : w2.cell? ⟨w.heap.size + 1, 2, none⟩ = some (.int .i64 x.h) := blk_cell u2 2
    have z3 : w2.cell? ⟨w.heap.size + 1, 3, none⟩ = some (.int .i64 x.id) := blk_cell u2 3
    have z4 : w2.cell? ⟨w.heap.size + 1, 4, none⟩ = some (.slice sa n sc) := blk_cell u2 4
    have HN1 := Lib.hid hN1; have HB2 := Lib.hid hb2; have U3 := Lib.hid u3; have U4 := Lib.hid u4
    clear hN1 hb2 u2 u3 u4 hu1 HJ1
    go_wp2_with fail
    have hW5 : Below w.heap.size w (w2.setCell ⟨w.heap.size + 1 + 1 + 1, 4, none⟩ (.slice a1 r1.length c1)) := HB2.out.setCell (by simp only []; omega) _
    have hu5 : Upd (fun b => b = w.heap.size + 1 + 1 + 1) w2 (w2.setCell ⟨w.heap.size + 1 + 1 + 1, 4, none⟩ (.slice a1 r1.length c1)) := (Upd.refl _ _).setCell _ _ (fun _ => rfl)
    have hN5 := HN1.out.upd (S' := S) hu5 (fun b hb' _ => ⟨by have := hS.out b hb'; omega, by have := hS.out b hb'; omega⟩) (fun b hb' => hb') (fun b hb' => by have := (HN1.out.lt hb').1; omega)
    have t3 := blk_upd U3.out hu5 (by omega)
    have t4 := blk_set U4.out 4 (.slice a1 r1.length c1)
    refine (HJ2.out _ a1 c1 hW5 hN5 (by rw [World.size_setCell]; omega)).mono ?_
    rintro e w6 ⟨a2, c2, rfl, hN6, hu6⟩
    have v3 := blk_upd t3 hu6 (by omega)
    have v4 := blk_upd t4 hu6 (by omega)
    have hb6 := hW5.trans (hu6.below _ hW5.size (fun k _ e => by omega))
    have m0 : w6.cell? ⟨w.heap.size + 1 + 1 + 1, 0, none⟩ = some (.int .i64 kind) := blk_cell v4 0
    have m1 : w6.cell? ⟨w.heap.size + 1 + 1 + 1, 1, none⟩ = some _ := blk_cell v4 1
    have m2 : w6.cell? ⟨w.heap.size + 1 + 1 + 1, 2, none⟩ = some _ := blk_cell v4 2
    have m3 : w6.cell? ⟨w.heap.size + 1 + 1 + 1, 3, none⟩ = some (.int .i64 0) := blk_cell v4 3
    have m4 : w6.cell? ⟨w.heap.size + 1 + 1 + 1, 4, none⟩ = some (.slice a1 r1.length c1) := blk_cell v4 4
    have g4 := blk_free v4 4
    have p0 : w6.cell? ⟨w.heap.size + 1 + 1, 0, none⟩ = some (.int .i64 0) := blk_cell v3 0
    have p1 : w6.cell? ⟨w.heap.size + 1 + 1, 1, none⟩ = some (.int .i64 0) := blk_cell v3 1
    have p2 : w6.cell? ⟨w.heap.size + 1 + 1, 2, none⟩ = some (.int .i64 0) := blk_cell v3 2
    have p3 : w6.cell? ⟨w.heap.size + 1 + 1, 3, none⟩ = some (.int .i64 0) := blk_cell v3 3
    have p4 : w6.cell? ⟨w.heap.size + 1 + 1, 4, none⟩ = some (.slice none 0 0) := blk_cell v3 4
    have f0 := blk_free v3 0
    have f1 := blk_free v3 1
    have f2 := blk_free v3 2
    have f3 := blk_free v3 3
    have f4 := blk_free v3 4
    have hl6 := blk_lt v4
    have HN6 := Lib.hid hN6; have HB6 := Lib.hid hb6; have V3 := Lib.hid v3
    clear hN6 hb6 v3 v4 hu6 t3 t4 hN5 hu5 hW5 HJ2 x4 y4 z0 z1 z2 z3 z4
    go_wp2_with fail
    (try simp only [Exit.inBlock, Exit.then])
    have hs5 := fun v1 v2 => set5 (w := w6.setCell ⟨w.heap.size + 1 + 1 + 1, 4, none⟩ (.slice a2 r2.length c2)) (b := w.heap.size + 1 + 1) (t := 88) (blk_far V3.out _ _ (by simp only []; omega)) rfl (.int .i64 kind) v1 v2 (.int .i64 0) (.slice a2 r2.length c2)
    refine bodyPost_ret (res_node1 rfl _ _ (w.heap.size + 1 + 1) _ rfl (hs5 _ _).1 rfl) rfl ?_
    exact HE.out w6 _ a2 c2 HN6.out HB6.out (((Upd.refl (fun b => w.heap.size ≤ b ∧ b < w.heap.size + 4) w6).setCell ⟨w.heap.size + 1 + 1 + 1, 4, none⟩ (.slice a2 r2.length c2) (fun _ => by simp only []; omega)).then_ (hs5 _ _).2 (fun k _ e => by omega))

end Go.Proofs.Ytpehceccnjdfeaa
