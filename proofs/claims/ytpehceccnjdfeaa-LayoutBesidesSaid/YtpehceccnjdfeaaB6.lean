/- grow: a cell that is cut. -/
import Derived.Test.YtpehceccnjdfeaaB5
namespace Go.Proofs.Ytpehceccnjdfeaa
open Go.RowKit

/-- grow's contract, for lists that so many rounds read. -/
def GrowSaid (f : Nat) : Prop := ∀ (B : Nat) (v : Value) (l : List Cl) (d : Int) (w : World), B ≤ w.heap.size → 2 * l.length + 1 ≤ f → l ≠ [] → l.length ≤ 64 → (∀ e ∈ l, CellOk e) → 0 ≤ d → d + l.length ≤ 100 → ReadsB B w v l →
  Calls Try.prog 116 #[v, .int .i64 d] w fun e w' => GrowPost B w (growF f l d) e w'

/-- What holds at the head of grow's loop. -/
def GrowLoop (B : Nat) (w : World) (FIN : Option (List R × Int × List Cl)) (c : Cl) (d : Int) (f : Nat) (v : Value) (sum : Int) (wr : World) : Prop :=
  ∃ (lr : List Cl) (kids : List R) (cs : List A) (kv : Value), growK f c d lr kids sum = FIN ∧ 2 * lr.length + 2 ≤ f ∧ ReadsB B wr v lr ∧ (∀ e ∈ lr, CellOk e) ∧ kids.length + lr.length ≤ 64 ∧ d + 1 + lr.length ≤ 100 ∧ -1 ≤ sum ∧ sum ≤ 1001 * kids.length ∧
    wr.heap[w.heap.size + 1 + 1]? = some (.cells #[.int .i64 0, .int .i64 0, .int .i64 c.w, .int .i64 c.h, .int .i64 c.k, kv] 105 (0, 0)) ∧ wr.ownsRow (w.heap.size + 3) 90 1 kv kids.length (cs.map A.val) ∧ Reps wr cs kids ∧ (blksL cs).Nodup ∧
    (∀ q ∈ blksL cs, w.heap.size + 3 ≤ q ∧ kv.ownBlock ≠ some q) ∧
    wr.heap[w.heap.size]? = some (.cells #[.int .i64 c.d, .int .i64 c.k, .int .i64 c.x, .int .i64 c.y, .int .i64 c.w, .int .i64 c.h, .int .i64 c.p] 53 (0, 0)) ∧ wr.heap[w.heap.size + 1]? = some (.cells #[.int .i64 0, .int .i64 0, .int .i64 c.w, .int .i64 c.h] 98 (0, 0)) ∧
    Below w.heap.size w wr

theorem GrowLoop.drewN {B : Nat} {w : World} {FIN : Option (List R × Int × List Cl)} {c : Cl} {d : Int} {f : Nat} {v : Value} {sum : Int} {wr : World} (h : GrowLoop B w FIN c d f v sum wr) (n : Nat) : GrowLoop B w FIN c d f v sum (wr.drewN n) := by
  obtain ⟨lr, kids, cs, kv, h1, h2, h3, h4, h5, h6, h7, h8, h9, h10, h11, h12, h13, h14, h15, h16⟩ := h
  exact ⟨lr, kids, cs, kv, h1, h2, h3.below (below_drewN (Below.refl _ _) n), h4, h5, h6, h7, h8, h9, h10, Reps.congr cs kids h11 fun _ _ => rfl, h12, h13, h14, h15, below_drewN h16 n⟩

theorem own_slice {w : World} {B e size n : Nat} {v : Value} {xs : List Value} (h : w.ownsRow B e size v n xs) : ∃ a c, v = .slice a n c := by
  rcases h.2 with ⟨rfl, rfl⟩ | ⟨g, cap, cur, rfl, _⟩
  · exact ⟨_, _, rfl⟩
  · exact ⟨_, _, rfl⟩
theorem row_of_owns {w : World} {B n : Nat} {v : Value} {xs : List Value} (h : w.ownsRow B 90 1 v n xs) (hn : 0 < n) : ∃ g cap, v = .slice (some ⟨g, 0, none⟩) n cap ∧ B ≤ g ∧ Row w g 0 cap xs := by
  have hl : xs.length = n := by have := h.1; omega
  rcases h.2 with ⟨_, h0⟩ | ⟨g, cap, cur, rfl, hg, hh, h1, _, h3, h4⟩
  · omega
  · refine ⟨g, cap, rfl, hg, cur, hh, by omega, by omega, ?_⟩
    rw [hl]
    simpa using h4

/-- Out of the loop: what grow answers. -/
theorem grow_end {B : Nat} {w wr : World} {f g : Nat} {c : Cl} {l lr : List Cl} {d sum : Int} {kids : List R} {cs : List A} {kv v : Value} (hk1 : c.k ≠ 1) (hcok : CellOk c)
    (h1 : growK g c d lr kids sum = growK f c d l [] (-1)) (hg : 2 * lr.length + 2 ≤ g) (hx : lr = [] ∨ ∃ e t, lr = e :: t ∧ e.d ≠ d + 1) (h3 : ReadsB B wr v lr)
    (h9 : wr.heap[w.heap.size + 1 + 1]? = some (.cells #[.int .i64 0, .int .i64 0, .int .i64 c.w, .int .i64 c.h, .int .i64 c.k, kv] 105 (0, 0))) (h10 : wr.ownsRow (w.heap.size + 3) 90 1 kv kids.length (cs.map A.val)) (h11 : Reps wr cs kids) (h12 : (blksL cs).Nodup)
    (h13 : ∀ q ∈ blksL cs, w.heap.size + 3 ≤ q ∧ kv.ownBlock ≠ some q) (h16 : Below w.heap.size w wr) :
    (kids.length < 2 → ∀ u, GrowPost B w (growF (f + 1) (c :: l) d) (.returned (.tuple #[.nilIface, u])) wr) ∧
    (sum ≠ ext c.k c.w c.h → ∀ u, GrowPost B w (growF (f + 1) (c :: l) d) (.returned (.tuple #[.nilIface, u])) wr) ∧
    (¬ kids.length < 2 → sum = ext c.k c.w c.h → GrowPost B w (growF (f + 1) (c :: l) d) (.returned (.tuple #[.iface 102 (.pointer (some ⟨w.heap.size + 1 + 1, 0, none⟩)), v])) wr) := by
  have hF : growK f c d l [] (-1) = some (kids, sum, lr) := by
    rw [← h1]
    obtain ⟨g, rfl⟩ : ∃ q, g = q + 1 := ⟨g - 1, by omega⟩
    rcases hx with rfl | ⟨e, t, rfl, he⟩
    · exact growK_nil _ _ _ _ _
    · rw [growK_cons, if_neg he]
  have hG : growF (f + 1) (c :: l) d = if kids.length < 2 then none else if sum = ext c.k c.w c.h then some (.mk c.k c.w c.h 0 kids, lr) else none := by
    rw [growF_cons, if_neg hk1, hF]
  refine ⟨fun h u => ?_, fun h u => ?_, fun h h' => ?_⟩
  · rw [hG, if_pos h]; exact ⟨h16, u, rfl⟩
  · rw [hG]
    by_cases h0 : kids.length < 2
    · rw [if_pos h0]; exact ⟨h16, u, rfl⟩
    · rw [if_neg h0, if_neg h]; exact ⟨h16, u, rfl⟩
  · rw [hG, if_neg h, if_pos h']
    have hlen := ((Reps_iff wr cs kids).1 h11).1
    obtain ⟨gb, cap, rfl, hgb, hrow⟩ := row_of_owns h10 (by omega)
    refine ⟨h16, .split (w.heap.size + 1 + 1) gb 0 cap cs, v, rfl, h3, ⟨rfl, ?_, ⟨0, 0, by rw [hlen]; exact h9⟩, hrow, h11⟩, ?_, ?_⟩
    · rcases hcok.2.2.2.2 with e | e | e
      · exact absurd e hk1
      · exact .inl e
      · exact .inr e
    · simp only [A.blks, List.nodup_cons, List.mem_cons, not_or]
      refine ⟨⟨by omega, fun e => by have := (h13 _ e).1; omega⟩, fun e => (h13 _ e).2 rfl, h12⟩
    · intro q hq
      simp only [A.blks, List.mem_cons] at hq
      rcases hq with rfl | rfl | hq
      · omega
      · omega
      · have := (h13 q hq).1; omega

/-- One child more. -/
theorem grow_app {B : Nat} {w wr w2 w3 : World} {c : Cl} {kids : List R} {cs : List A} {kv v' : Value} {a0 : A} {r : R} {l' : List Cl} {X : Obj} {g cap m : Nat}
    (h11 : Reps wr cs kids) (h12 : (blksL cs).Nodup) (h13 : ∀ q ∈ blksL cs, w.heap.size + 3 ≤ q ∧ kv.ownBlock ≠ some q) (h16 : Below w.heap.size w wr) (hb2 : Below wr.heap.size wr w2) (hsz : w.heap.size + 3 ≤ wr.heap.size)
    (hB : B ≤ w.heap.size) (k1 : ReadsB B w2 v' l') (k2 : Rep w2 a0 r) (k3 : a0.blks.Nodup) (k4 : ∀ k ∈ a0.blks, wr.heap.size ≤ k)
    (own0 : wr.ownsRow (w.heap.size + 3) 90 1 kv m (cs.map A.val))
    (e9 : w3.heap[w.heap.size + 1 + 1]? = some (.cells #[.int .i64 0, .int .i64 0, .int .i64 c.w, .int .i64 c.h, .int .i64 c.k, kv] 105 (0, 0)))
    (e14 : w2.heap[w.heap.size]? = some (.cells #[.int .i64 c.d, .int .i64 c.k, .int .i64 c.x, .int .i64 c.y, .int .i64 c.w, .int .i64 c.h, .int .i64 c.p] 53 (0, 0))) (e15 : w2.heap[w.heap.size + 1]? = some (.cells #[.int .i64 0, .int .i64 0, .int .i64 c.w, .int .i64 c.h] 98 (0, 0)))
    (hgrow : (w2.alloc X).grownBy w3 kv.ownBlock) (hown : w3.ownsRow (w.heap.size + 3) 90 1 (.slice (some ⟨g, 0, none⟩) (m + 1) cap) (m + 1) (cs.map A.val ++ [a0.val])) (hg : kv.ownBlock = some g ∨ g = w2.heap.size + 1) :
    ∃ w4, w3.setCell ⟨w.heap.size + 1 + 1, 5, none⟩ (.slice (some ⟨g, 0, none⟩) (m + 1) cap) = w4 ∧
    w4.heap[w.heap.size + 1 + 1]? = some (.cells #[.int .i64 0, .int .i64 0, .int .i64 c.w, .int .i64 c.h, .int .i64 c.k, .slice (some ⟨g, 0, none⟩) (m + 1) cap] 105 (0, 0)) ∧
    w4.ownsRow (w.heap.size + 3) 90 1 (.slice (some ⟨g, 0, none⟩) (m + 1) cap) (m + 1) ((cs ++ [a0]).map A.val) ∧ Reps w4 (cs ++ [a0]) (kids ++ [r]) ∧ (blksL (cs ++ [a0])).Nodup ∧
    (∀ q ∈ blksL (cs ++ [a0]), w.heap.size + 3 ≤ q ∧ (Value.slice (some ⟨g, 0, none⟩) (m + 1) cap).ownBlock ≠ some q) ∧
    w4.heap[w.heap.size]? = some (.cells #[.int .i64 c.d, .int .i64 c.k, .int .i64 c.x, .int .i64 c.y, .int .i64 c.w, .int .i64 c.h, .int .i64 c.p] 53 (0, 0)) ∧ w4.heap[w.heap.size + 1]? = some (.cells #[.int .i64 0, .int .i64 0, .int .i64 c.w, .int .i64 c.h] 98 (0, 0)) ∧
    Below w.heap.size w w4 ∧ ReadsB B w4 v' l' ∧ Rep w4 a0 r := by
  refine ⟨_, rfl, ?_⟩
  have hlt0 : ∀ q, kv.ownBlock = some q → w.heap.size + 3 ≤ q ∧ q < wr.heap.size := fun q hq => World.ownsRow.lt own0 q hq
  have hu : Upd (fun k => k = w.heap.size + 1 + 1 ∨ kv.ownBlock = some k) w2 (w3.setCell ⟨w.heap.size + 1 + 1, 5, none⟩ (.slice (some ⟨g, 0, none⟩) (m + 1) cap)) :=
    (((Upd.refl _ w2).alloc X).grown hgrow fun k _ e => .inr e).setCell _ _ fun _ => .inl rfl
  have hu2 : Upd (fun k => k = w.heap.size + 1 + 1 ∨ kv.ownBlock = some k) wr (w3.setCell ⟨w.heap.size + 1 + 1, 5, none⟩ (.slice (some ⟨g, 0, none⟩) (m + 1) cap)) :=
    (Upd.of_below (fun k => k = w.heap.size + 1 + 1 ∨ kv.ownBlock = some k) hb2).trans hu
  have hK2 : Rep (w3.setCell ⟨w.heap.size + 1 + 1, 5, none⟩ (.slice (some ⟨g, 0, none⟩) (m + 1) cap)) a0 r := k2.upd hu (by
    rintro k hk (e | e)
    · have := k4 k hk; omega
    · have := k4 k hk; have := (hlt0 k e).2; omega)
  refine ⟨?_, ?_, ?_, ?_, ?_, ?_, ?_, ?_, ?_, hK2⟩
  · rw [blk_set e9 5]; simp
  · have e : (cs ++ [a0]).map A.val = cs.map A.val ++ [a0.val] := by simp
    rw [e]
    exact ownsRow_upd hown ((Upd.refl (fun k => k = w.heap.size + 1 + 1) w3).setCell _ _ (fun _ => rfl)) fun k hk e => by
      have := (World.ownsRow.lt hown k hk).1; omega
  · rw [Reps_iff]
    have hl := ((Reps_iff wr cs kids).1 h11).1
    have hR := (Reps_iff _ _ _).1 (h11.upd hu2 (by
      rintro q hq (e | e)
      · have := (h13 q hq).1; omega
      · exact (h13 q hq).2 e))
    refine ⟨by simp [hl], fun i b s hb hs => ?_⟩
    rcases Nat.lt_or_ge i cs.length with hi | hi
    · rw [List.getElem?_append_left hi] at hb
      rw [List.getElem?_append_left (by omega)] at hs
      exact hR.2 i b s hb hs
    · have hi2 : i = cs.length := by have := (List.getElem?_eq_some_iff.1 hb).1; simp at this; omega
      subst hi2
      rw [List.getElem?_append_right (Nat.le_refl _)] at hb
      rw [List.getElem?_append_right (by omega)] at hs
      simp only [Nat.sub_self, List.getElem?_cons_zero, Option.some.injEq] at hb
      rw [show cs.length - kids.length = 0 by omega] at hs
      simp only [List.getElem?_cons_zero, Option.some.injEq] at hs
      subst hb hs
      exact hK2
  · rw [blksL_append, List.nodup_append]
    refine ⟨h12, by simpa [blksL] using k3, fun x hx y hy e => ?_⟩
    subst e
    have h1 := (Reps.tyd cs kids h11 x hx).lt
    have h2 := k4 x (by simpa [blksL] using hy)
    omega
  · intro q hq
    rw [blksL_append, List.mem_append] at hq
    have hne : ∀ q, q ∈ blksL cs ∨ q ∈ a0.blks → g ≠ q := by
      rintro q hq rfl
      rcases hg with e | e
      · rcases hq with hq | hq
        · exact (h13 g hq).2 e
        · have := k4 g hq; have := (hlt0 g e).2; omega
      · rcases hq with hq | hq
        · have := (Reps.tyd cs kids h11 g hq).lt; have := hb2.size; omega
        · have := (Rep.tyd a0 r k2 g hq).lt; omega
    have hq2 : q ∈ blksL cs ∨ q ∈ a0.blks := by simpa [blksL] using hq
    refine ⟨?_, by simp only [Value.ownBlock, ne_eq, Option.some.injEq]; exact hne q hq2⟩
    rcases hq2 with hq | hq
    · exact (h13 q hq).1
    · have := k4 q hq; omega
  · exact blk_upd e14 hu (by
      rintro (e | e)
      · omega
      · have := (hlt0 _ e).1; omega)
  · exact blk_upd e15 hu (by
      rintro (e | e)
      · omega
      · have := (hlt0 _ e).1; omega)
  · refine h16.trans (hu2.below _ h16.size ?_)
    rintro k _ (e | e)
    · omega
    · have := (hlt0 k e).1; omega
  · refine k1.below (hu.below B (by have := hb2.size; omega) ?_)
    rintro k _ (e | e)
    · omega
    · have := (hlt0 k e).1; omega

set_option maxRecDepth 100000 in
set_option maxHeartbeats 2000000 in
theorem grow_split (B f : Nat) (ih : Hid (∀ g, g < f + 1 → GrowSaid g)) (b off n cap : Nat) (c : Cl) (l : List Cl) (d : Int) (w : World) (hB : B ≤ w.heap.size) (hbB : b < B) (hn : 1 ≤ n) (hcap : n ≤ cap) (hc1 : ¬ cap = 1) (hc56 : Hid (CapOk n cap)) (hk : (c.k == 1) = false) (hlen : Hid (n = (c :: l).length))
    (hf : Hid (2 * l.length + 2 ≤ f)) (h64 : Hid (l.length ≤ 63)) (hok : Hid (∀ e ∈ l, CellOk e)) (hcok : Hid (CellOk c)) (hd0 : 0 ≤ d) (hd : Hid (d + 1 + l.length ≤ 100)) (hd1 : d ≤ 99)
    (hc : Hid (∀ (i : Nat) (e : Cl), (c :: l)[i]? = some e → ∀ j, j < 7 → w.cell? ⟨b, off + i * 7 + j, none⟩ = e.vals[j]?)) :
    Calls Try.prog 116 #[.slice (some ⟨b, off, none⟩) n cap, .int .i64 d] w fun e w' => GrowPost B w (growF (f + 1) (c :: l) d) e w' := by
  have g := hc.out 0 c rfl
  have a0 := g 0 (by omega); have a1 := g 1 (by omega); have a2 := g 2 (by omega); have a3 := g 3 (by omega); have a4 := g 4 (by omega); have a5 := g 5 (by omega); have a6 := g 6 (by omega)
  clear g
  simp only [Cl.vals, List.getElem?_cons_zero, List.getElem?_cons_succ, Nat.add_zero, Nat.zero_mul] at a0 a1 a2 a3 a4 a5 a6
  have n0 : (0:Int) < (n:Int) := by omega
  have hb := World.block_lt_of_cell? w _ a0
  obtain ⟨ck0, ck1, ck2, ck3, ck4⟩ : CellOk c := hcok.out
  clear ck4
  have hstart : ∀ (v0 : Value), ReadsB B w v0 l → GrowLoop B w (growK f c d l [] (-1)) c d f v0 (-1) (((w.alloc (.cells #[.int .i64 c.d, .int .i64 c.k, .int .i64 c.x, .int .i64 c.y, .int .i64 c.w, .int .i64 c.h, .int .i64 c.p] 53)).alloc (.cells #[.int .i64 0, .int .i64 0, .int .i64 c.w, .int .i64 c.h] 98)).alloc (.cells #[.int .i64 0, .int .i64 0, .int .i64 c.w, .int .i64 c.h, .int .i64 c.k, .slice none 0 0] 105)) := by
    intro v0 hr
    have hbel := (((Below.refl w.heap.size w).alloc (Nat.le_refl _) (.cells #[.int .i64 c.d, .int .i64 c.k, .int .i64 c.x, .int .i64 c.y, .int .i64 c.w, .int .i64 c.h, .int .i64 c.p] 53)).alloc (by simp) (.cells #[.int .i64 0, .int .i64 0, .int .i64 c.w, .int .i64 c.h] 98)).alloc (by simp; omega) (.cells #[.int .i64 0, .int .i64 0, .int .i64 c.w, .int .i64 c.h, .int .i64 c.k, .slice none 0 0] 105)
    have e1 := heap_alloc_new w (.cells #[.int .i64 c.d, .int .i64 c.k, .int .i64 c.x, .int .i64 c.y, .int .i64 c.w, .int .i64 c.h, .int .i64 c.p] 53)
    have e2 := heap_alloc_new (w.alloc (.cells #[.int .i64 c.d, .int .i64 c.k, .int .i64 c.x, .int .i64 c.y, .int .i64 c.w, .int .i64 c.h, .int .i64 c.p] 53)) (.cells #[.int .i64 0, .int .i64 0, .int .i64 c.w, .int .i64 c.h] 98)
    have e3 := heap_alloc_new ((w.alloc (.cells #[.int .i64 c.d, .int .i64 c.k, .int .i64 c.x, .int .i64 c.y, .int .i64 c.w, .int .i64 c.h, .int .i64 c.p] 53)).alloc (.cells #[.int .i64 0, .int .i64 0, .int .i64 c.w, .int .i64 c.h] 98)) (.cells #[.int .i64 0, .int .i64 0, .int .i64 c.w, .int .i64 c.h, .int .i64 c.k, .slice none 0 0] 105)
    simp only [World.size_alloc] at e2 e3
    have := hf.out; have := h64.out; have := hd.out
    exact ⟨l, [], [], .slice none 0 0, rfl, hf.out, hr.below (hbel.mono hB), hok.out, by simp; omega, by omega, by omega, by simp, e3, World.ownsRow_nil _ _ _ _, by simp [Reps], by simp [blksL], by simp [blksL], blk_alloc (blk_alloc e1 _) _, blk_alloc e2 _, hbel⟩
  have Hstart := Lib.hid hstart; clear hstart
  go_enter Try.func116, Try.ntmps116
  go_wp2_with fail
  go_loopg [0, 9] f (fun g v s wr => g ≤ f ∧ ∃ sum, s = .int .i64 sum ∧ GrowLoop B w (growK f c d l [] (-1)) c d g v sum wr)
  case atStart =>
    refine ⟨Nat.le_refl _, _, rfl, Hstart.out _ ?_⟩
    have hl : n - 1 = l.length := by have := hlen.out; simp only [List.length_cons] at this; omega
    rw [hl]
    exact ReadsB.tail_far (c := c) hbB (by have := hlen.out; omega) (by rw [← hlen.out]; exact hc56.out) hc.out
  case round =>
    obtain ⟨hgf, sum, rfl, lr, kids, cs, kv, h1, h2, h3, h4, h5, h6, h7, h8, h9, h10, h11, h12, h13, h14, h15, h16⟩ := hrel
    obtain ⟨ka, kc, hkv⟩ := own_slice h10
    have hend := fun hx => grow_end (by simpa using hk) hcok.out h1 h2 hx h3 h9 h10 h11 h12 h13 h16
    have Hend := Lib.hid hend; clear hend
    subst hkv
    have b6 : wr.cell? ⟨w.heap.size, 1, none⟩ = some (.int .i64 c.k) := blk_cell h14 1
    have b2 : wr.cell? ⟨w.heap.size + 1, 2, none⟩ = some (.int .i64 c.w) := blk_cell h15 2
    have b3 : wr.cell? ⟨w.heap.size + 1, 3, none⟩ = some (.int .i64 c.h) := blk_cell h15 3
    have s5 : wr.cell? ⟨w.heap.size + 1 + 1, 5, none⟩ = some (.slice ka kids.length kc) := blk_cell h9 5
    have H9 := Lib.hid h9; have H10 := Lib.hid h10; have H11 := Lib.hid h11; have H12 := Lib.hid h12; have H13 := Lib.hid h13; have H14 := Lib.hid h14; have H15 := Lib.hid h15; have H16 := Lib.hid h16; have H1 := Lib.hid h1; have H2 := Lib.hid h2; have H4 := Lib.hid h4
    clear h9 h10 h11 h12 h13 h14 h15 h16 h1 h2 h4
    clear a0 a1 a2 a3 a4 a5 a6
    generalize hm : kids.length = m at *
    have Hm := Lib.hid hm; clear hm
    by_cases hx : lr = [] ∨ ∃ e t, lr = e :: t ∧ e.d ≠ d + 1
    · have Hx := Lib.hid (Hend.out hx); clear Hend
      rcases hx with rfl | ⟨e, t, rfl, hed⟩
      · obtain ⟨va, vc, rfl, q1, q2, q3⟩ := h3
        simp only [List.length_nil] at *
        rcases Nat.lt_or_ge m 2 with hm2 | hm2
        · have t1 : (m : Int) < 2 := by omega
          go_wp2_with (go_at_call 70; refine (extent_any _ 0 c.w c.h _ _ ?_ ?_).mono ?_; assumption; assumption; rintro e w' ⟨rfl, rfl⟩)
          go_ret2
          exact Hx.out.1 hm2 _
        · have t1 : ¬ (m : Int) < 2 := by omega
          by_cases hs : sum = ext c.k c.w c.h
          · have t2 : (sum != ext c.k c.w c.h) = false := by simp [hs]
            have Hs := Lib.hid hs; clear hs
            go_wp2_with (go_at_call 70; refine (extent_any _ 0 c.w c.h _ _ ?_ ?_).mono ?_; assumption; assumption; rintro e w' ⟨rfl, rfl⟩)
            go_ret2
            exact Hx.out.2.2 (by omega) Hs.out
          · have t2 : (sum != ext c.k c.w c.h) = true := by simpa using hs
            have Hs := Lib.hid hs; clear hs
            go_wp2_with (go_at_call 70; refine (extent_any _ 0 c.w c.h _ _ ?_ ?_).mono ?_; assumption; assumption; rintro e w' ⟨rfl, rfl⟩)
            go_ret2
            exact Hx.out.2.1 Hs.out _
      · obtain ⟨va, vc, rfl, q1, q2, q3⟩ := h3
        obtain ⟨vb, vo, rfl, q5, q4⟩ := q3 (by simp)
        have g0 : wr.cell? ⟨vb, vo, none⟩ = some (.int .i64 e.d) := by simpa [Cl.vals] using q4 0 e rfl 0 (by omega)
        have g1 : (e.d == d + 1) = false := by simpa using hed
        clear q4 hed
        simp only [List.length_cons] at *
        generalize hnn : t.length + 1 = nn at *
        have hn0 : (0 : Int) < (nn : Int) := by omega
        have Hnn := Lib.hid hnn; clear hnn
        rcases Nat.lt_or_ge m 2 with hm2 | hm2
        · have t1 : (m : Int) < 2 := by omega
          go_wp2_with (go_at_call 70; refine (extent_any _ 0 c.w c.h _ _ ?_ ?_).mono ?_; assumption; assumption; rintro e w' ⟨rfl, rfl⟩)
          go_ret2
          exact Hx.out.1 hm2 _
        · have t1 : ¬ (m : Int) < 2 := by omega
          by_cases hs : sum = ext c.k c.w c.h
          · have t2 : (sum != ext c.k c.w c.h) = false := by simp [hs]
            have Hs := Lib.hid hs; clear hs
            go_wp2_with (go_at_call 70; refine (extent_any _ 0 c.w c.h _ _ ?_ ?_).mono ?_; assumption; assumption; rintro e w' ⟨rfl, rfl⟩)
            go_ret2
            exact Hx.out.2.2 (by omega) Hs.out
          · have t2 : (sum != ext c.k c.w c.h) = true := by simpa using hs
            have Hs := Lib.hid hs; clear hs
            go_wp2_with (go_at_call 70; refine (extent_any _ 0 c.w c.h _ _ ?_ ?_).mono ?_; assumption; assumption; rintro e w' ⟨rfl, rfl⟩)
            go_ret2
            exact Hx.out.2.1 Hs.out _
    · clear Hend
      obtain ⟨e, t, rfl, hed⟩ : ∃ e t, lr = e :: t ∧ e.d = d + 1 := by
        cases lr with
        | nil => exact absurd (.inl rfl) hx
        | cons e t => exact ⟨e, t, rfl, Classical.byContradiction fun h => hx (.inr ⟨e, t, rfl, h⟩)⟩
      clear hx
      have Hr := Lib.hid h3
      obtain ⟨va, vc, rfl, q1, q2, q3⟩ := h3
      obtain ⟨vb, vo, rfl, q5, q4⟩ := q3 (by simp)
      have g0 : wr.cell? ⟨vb, vo, none⟩ = some (.int .i64 e.d) := by simpa [Cl.vals] using q4 0 e rfl 0 (by omega)
      have g1 : wr.cell? ⟨vb, vo + 1, none⟩ = some (.int .i64 e.k) := by simpa [Cl.vals] using q4 0 e rfl 1 (by omega)
      have ge : (e.d == d + 1) = true := by simpa using hed
      clear q4
      have Hed := Lib.hid hed; clear hed
      simp only [List.length_cons] at *
      generalize hnn : t.length + 1 = nn at *
      have hn0 : (0 : Int) < (nn : Int) := by omega
      have Hnn := Lib.hid hnn; clear hnn
      obtain ⟨gk, rfl⟩ : ∃ q, gk = q + 1 := ⟨gk - 1, by have := H2.out; omega⟩
      by_cases hek : e.k = c.k
      · have gek : (e.k == c.k) = true := by simpa using hek
        have Hek := Lib.hid hek; clear hek
        go_wp2_with fail
        go_quiet (fail)
        go_wp2_with fail
        go_ret2
        have hF : growK f c d l [] (-1) = none := by rw [← H1.out, growK_cons, if_pos Hed.out, if_pos Hek.out]
        have hk1 : ¬ c.k = 1 := by simpa using hk
        rw [growF_cons, if_neg hk1, hF]
        exact ⟨below_drewN H16.out _, _, rfl⟩
      · have gek : (e.k == c.k) = false := by simpa using hek
        have Hek := Lib.hid hek; clear hek
        go_wp2_with fail
        go_quiet (fail)
        go_wp2_with fail
        refine (ih.out gk (by omega) B _ (e :: t) (d + 1) _ (show B ≤ (wr.drewN nq).heap.size from Nat.le_trans hB H16.out.size) ?_ (by simp) ?_ H4.out (by omega) ?_ (Hr.out.below (below_drewN (Below.refl _ _) nq))).mono ?_
        · have := H2.out; have := Hnn.out; simp only [List.length_cons]; omega
        · have := Hnn.out; simp only [List.length_cons]; omega
        · have := Hnn.out; simp only [List.length_cons]; omega
        rintro e1 w2 ⟨hbel, hres⟩
        have hbel2 : Below wr.heap.size wr w2 := ⟨hbel.os, hbel.tape, hbel.output, hbel.size, hbel.block⟩
        have HB2 := Lib.hid hbel2; clear hbel hbel2
        cases hg : growF gk (e :: t) (d + 1) with
        | none =>
          rw [hg] at hres
          obtain ⟨u, rfl⟩ := hres
          have Hg := Lib.hid hg; clear hg
          go_wp2_with fail
          go_ret2
          have hF : growK f c d l [] (-1) = none := by rw [← H1.out, growK_cons, if_pos Hed.out, if_neg Hek.out, Hg.out]
          have hk1 : ¬ c.k = 1 := by simpa using hk
          rw [growF_cons, if_neg hk1, hF]
          exact ⟨below_then H16.out (Nat.le_refl _) HB2.out, _, rfl⟩
        | some res =>
          obtain ⟨r, l'⟩ := res
          rw [hg] at hres
          obtain ⟨a0, v', rfl, k1, k2, k3, k4⟩ := hres
          have Hg := Lib.hid hg; clear hg
          obtain ⟨ty, hv, mw⟩ := val_parts a0
          rw [hv]
          have hwh := k2.wh
          have e9 := blk_below H9.out HB2.out
          have e14 := blk_below H14.out HB2.out
          have e15 := blk_below H15.out HB2.out
          clear b6 b2 b3 s5 g0 g1 ge gek
          have s5 : w2.cell? ⟨w.heap.size + 1 + 1, 5, none⟩ = some (.slice ka m kc) := blk_cell e9 5
          have HK1 := Lib.hid k1; have HK2 := Lib.hid k2; have HK3 := Lib.hid k3; have HK4 := Lib.hid k4; have HV := Lib.hid hv; have HWH := Lib.hid hwh; have E9 := Lib.hid e9; have E14 := Lib.hid e14; have E15 := Lib.hid e15
          clear k1 k2 k3 k4 hv hwh e9 e14 e15
          have MW := Lib.hid mw; clear mw
          have HOWN := Lib.hid (ownsRow_upd H10.out (Upd.of_below (fun _ => False) HB2.out) (fun _ _ e => e))
          have hsz : w.heap.size + 3 ≤ w2.heap.size := by have := blk_lt E9.out; omega
          obtain ⟨i0, hi0, hz0, hz1, hz2⟩ := info_parts info90
          have Hi := Lib.hid hi0; have Hz0 := Lib.hid hz0; have Hz1 := Lib.hid hz1; have Hz2 := Lib.hid hz2
          clear hi0 hz0 hz1 hz2
          go_wp2_with (at_builtin; go_must (refine wpList_append_lies _ rfl (.tmp 68) (.tmp 70) 92 rfl (w.heap.size + 3) 90 i0 .nilIface 1 16 Try.underlying92 Hi.out Hz0.out Hz1.out Hz2.out rfl (by decide) (.slice ka m kc) m (cs.map A.val) rfl (HOWN.out.alloc _) ⟨w2.heap.size, 0, none⟩ 1 1 [.iface ty (.pointer (some ⟨a0.blk, 0, none⟩))] rfl rfl (World.news_of_block (cs := #[.iface ty (.pointer (some ⟨a0.blk, 0, none⟩))]) (t := 90) (fr := (0, 0)) (heap_alloc_new w2 _)) (by simp [Value.oneCell']) (by omega) (by unfold maxLen; omega) (by omega) (by simp; omega) (w2.heap.size + 1) (by simp) ?_); intro g3 cap3 w3 hown3 hgrow3 hat3 _; have e9 : w3.heap[w.heap.size + 1 + 1]? = some (.cells #[.int .i64 0, .int .i64 0, .int .i64 c.w, .int .i64 c.h, .int .i64 c.k, .slice ka m kc] 105 (0, 0)) := ((hgrow3.block _ (by simp; omega) (ownsRow_ne HOWN.out E9.out (by decide)).symm).trans (blk_alloc E9.out _)); have f5 := blk_free e9 5; have s6 : w3.cell? ⟨w.heap.size + 1 + 1, 5, none⟩ = some (.slice ka m kc) := blk_cell e9 5; have E9b := Lib.hid e9; have Hat3 := Lib.hid hat3; clear hat3; have Hown3 := Lib.hid hown3; have Hgrow3 := Lib.hid hgrow3; clear e9 hown3 hgrow3)
          obtain ⟨w4, hw4, p1, p2, p3, p4, p5, p6, p7, p8, p9, p10⟩ := grow_app H11.out H12.out H13.out H16.out HB2.out (by have := blk_lt H9.out; omega) hB HK1.out HK2.out HK3.out HK4.out H10.out E9b.out E14.out E15.out Hgrow3.out (by rw [HV.out]; exact Hown3.out) Hat3.out
          rw [hw4]
          clear hw4 f5 s5 s6
          have c1 : w4.cell? ⟨w.heap.size, 1, none⟩ = some (.int .i64 c.k) := blk_cell p6 1
          have c2 : w4.cell? ⟨w.heap.size + 1, 2, none⟩ = some (.int .i64 c.w) := blk_cell p7 2
          have c3 : w4.cell? ⟨w.heap.size + 1, 3, none⟩ = some (.int .i64 c.h) := blk_cell p7 3
          obtain ⟨k2, k3⟩ := p10.wh
          have P1 := Lib.hid p1; have P2 := Lib.hid p2; have P3 := Lib.hid p3; have P4 := Lib.hid p4; have P5 := Lib.hid p5; have P6 := Lib.hid p6; have P7 := Lib.hid p7; have P8 := Lib.hid p8; have P9 := Lib.hid p9
          clear p1 p2 p3 p4 p5 p6 p7 p8 p9 p10
          clear Hat3 Hown3 Hgrow3 E9b HOWN Hi Hz0 Hz1 Hz2 E9 E14 E15 HWH HK1 HK2 HK3 HK4 HB2 H9 H10 H11 H12 H13 H14 H15 H16
          obtain ⟨e', t', he', r1, r2, _, r4, _⟩ := (grow_tells gk).1 _ _ _ _ Hg.out
          simp only [List.cons.injEq] at he'
          obtain ⟨rfl, rfl⟩ := he'
          obtain ⟨x1, x2, x3, x4, _⟩ : CellOk e := H4.out e (by simp)
          have hE : 0 ≤ ext c.k r.w r.h := by unfold ext; split <;> omega
          have hE2 : ext c.k r.w r.h ≤ 1000 := by unfold ext; split <;> omega
          clear x1 x2 x3 x4
          have R4 := Lib.hid r4; clear r1 r2 r4
          have hkk : 1 ≤ c.k ∧ c.k ≤ 3 := by rcases hcok.out.2.2.2.2 with h | h | h <;> omega
          obtain ⟨hkk1, hkk2⟩ := hkk
          have hwi : Hid (∀ w, InvokeC Try.prog (.iface ty (.pointer (some ⟨a0.blk, 0, none⟩))) "mullion/layout.where" #[] w fun e w' => e = .returned (.pointer (some ⟨a0.blk, 0, none⟩)) ∧ w = w') := by
            rw [← HV.out]; exact fun w => where_inv a0 w
          refine wp_region_quiet_lit (by kernel_rfl) (by kernel_rfl) ?_
          repeat (any_goals (first
            | ((with_reducible refine wpQuiet_inv0 rfl (.tmp 75) "mullion/layout.where" #[] rfl (.pointer (some ⟨a0.blk, 0, none⟩)) ?_ ?_); exact hwi.out; go_simp)
            | go_big_quiet_step ((go_at_call 70; exact quiet_sym (extent_any _ 0 r.w r.h _ _ (by exact k2) (by exact k3))))))
          refine wpQuiet_nil ?_
          intro nq1
          go_wp2_with fail
          generalize hw5 : w4.drewN nq1 = w5
          have c1' : w5.cell? ⟨w.heap.size, 1, none⟩ = some (.int .i64 c.k) := by rw [← hw5]; exact c1
          have c2' : w5.cell? ⟨w.heap.size + 1, 2, none⟩ = some (.int .i64 c.w) := by rw [← hw5]; exact c2
          have c3' : w5.cell? ⟨w.heap.size + 1, 3, none⟩ = some (.int .i64 c.h) := by rw [← hw5]; exact c3
          have k2' : w5.cell? ⟨a0.blk, 2, none⟩ = some (.int .i64 r.w) := by rw [← hw5]; exact k2
          have k3' : w5.cell? ⟨a0.blk, 3, none⟩ = some (.int .i64 r.h) := by rw [← hw5]; exact k3
          have Hw5 := Lib.hid hw5; clear hw5 c1 c2 c3 k2 k3
          refine wp_region_quiet_lit (by kernel_rfl) (by kernel_rfl) ?_
          repeat (any_goals (first
            | ((with_reducible refine wpQuiet_inv0 rfl (.tmp 82) "mullion/layout.where" #[] rfl (.pointer (some ⟨a0.blk, 0, none⟩)) ?_ ?_); exact hwi.out; go_simp)
            | go_big_quiet_step ((go_at_call 70; first | exact quiet_sym (extent_any _ 0 r.w r.h _ _ (by exact k2') (by exact k3')) | exact quiet_sym (extent_any _ 0 c.w c.h _ _ (by exact c2') (by exact c3'))))))
          refine wpQuiet_nil ?_
          intro nq
          go_wp2_with fail
          · have hne : r.ext (5 - c.k) ≠ ext (5 - c.k) c.w c.h := by
              have := ‹(_ != _) = true›
              simpa [R.ext] using this
            go_ret2
            have hF : growK f c d l [] (-1) = none := by
              rw [← H1.out, growK_cons, if_pos Hed.out, if_neg Hek.out, Hg.out]
              simp only []
              rw [if_neg hne]
            have hk1 : ¬ c.k = 1 := by simpa using hk
            rw [growF_cons, if_neg hk1, hF]
            refine ⟨?_, _, rfl⟩
            rw [← Hw5.out]
            exact below_drewN (below_drewN P8.out _) _
          · have heq : r.ext (5 - c.k) = ext (5 - c.k) c.w c.h := by
              have := ‹(_ != _) = false›
              simpa [R.ext] using this
            go_roundg gk
            case measure => omega
            case rel =>
              have hlen : (kids ++ [r]).length = m + 1 := by simp [Hm.out]
              have hL : GrowLoop B w (growK f c d l [] (-1)) c d gk v' (sum + (ext c.k r.w r.h + 1)) w4 := by
                refine ⟨l', kids ++ [r], cs ++ [a0], .slice (some ⟨g3, 0, none⟩) (m + 1) cap3, ?_, ?_, P9.out, ?_, ?_, ?_, ?_, ?_, P1.out, ?_, P3.out, P4.out, P5.out, P6.out, P7.out, P8.out⟩
                · rw [← H1.out, growK_cons, if_pos Hed.out, if_neg Hek.out, Hg.out]
                  simp only []
                  rw [if_pos heq]
                  rfl
                · have := H2.out; have := R4.out; have := Hnn.out; omega
                · obtain ⟨_, _, he2, _, _, _, _, p, hp⟩ := (grow_tells gk).1 _ _ _ _ Hg.out
                  intro q hq
                  exact H4.out q (by rw [hp]; exact List.mem_append_right _ hq)
                · have := R4.out; have := Hnn.out; omega
                · have := R4.out; have := Hnn.out; omega
                · omega
                · omega
                · rw [hlen]; exact P2.out
              have hfin := (hL.drewN nq1)
              rw [Hw5.out] at hfin
              exact ⟨by omega, _, rfl, hfin.drewN _⟩

end Go.Proofs.Ytpehceccnjdfeaa
