/- The reference's grown. -/
import Derived.Test.YtpehceccnjdfeaaF8
import Derived.Test.YtpehceccnjdfeaaE1
import Derived.Laws.ResultCell
import Derived.Laws.Rows
namespace Go.Proofs.Ytpehceccnjdfeaa
open Go.RowKit

theorem NOwn.app {w w' : World} {B : Nat} {S : Nat → Prop} {v : Value} {rs rs' : List R} {ss ss' : List Value} {g cap : Nat} (h1 : ss.length = rs.length) (h1' : ss'.length = rs'.length)
    (h3 : ∀ (i : Nat) (r : R) (s : Value), rs[i]? = some r → ss[i]? = some s → NKS (fun b => S b ∧ v.ownBlock ≠ some b) w s r)
    (h3' : ∀ (i : Nat) (r : R) (s : Value), rs'[i]? = some r → ss'[i]? = some s → NKS (fun b => S b ∧ v.ownBlock ≠ some b) w s r)
    (hS : ∀ b, S b → b < w.heap.size)
    (hown : w'.ownsRow B 88 5 (.slice (some ⟨g, 0, none⟩) (rs.length + rs'.length) cap) (rs.length + rs'.length) (rowVals rs ss ++ rowVals rs' ss'))
    (hg : w.grownBy w' v.ownBlock) (hat : v.ownBlock = some g ∨ g = w.heap.size) : NOwn w' B S (.slice (some ⟨g, 0, none⟩) (rs.length + rs'.length) cap) (rs ++ rs') := by
  refine ⟨ss ++ ss', by simp [h1, h1'], by rw [rowVals_app _ _ _ _ h1, List.length_append]; exact hown, fun i r s hr hs => ?_⟩
  have mv : ∀ {r : R} {s : Value}, NKS (fun b => S b ∧ v.ownBlock ≠ some b) w s r → NKS (fun b => S b ∧ (Value.slice (some ⟨g, 0, none⟩) (rs.length + rs'.length) cap).ownBlock ≠ some b) w' s r := by
    intro r s h
    refine h.upd (fun b hb => ⟨hb.1, ?_⟩) (fun b hb => hg.block b (hS b hb.1) hb.2.symm)
    simp only [Value.ownBlock, ne_eq, Option.some.injEq]
    rcases hat with e | e
    · rintro rfl; exact hb.2 e
    · have := hS b hb.1; omega
  by_cases hi : i < rs.length
  · rw [List.getElem?_append_left hi] at hr
    rw [List.getElem?_append_left (by omega)] at hs
    exact mv (h3 i r s hr hs)
  · rw [List.getElem?_append_right (by omega)] at hr
    rw [List.getElem?_append_right (by omega), h1] at hs
    exact mv (h3' _ r s hr hs)

theorem gr_suffix (f : Nat) : (∀ (l : List Cl) (r : R) (rest : List Cl), grF f l = some (r, rest) → rest <:+ l ∧ rest.length < l.length) ∧ (∀ (d : Int) (l : List Cl) (ks ks' : List R) (rest : List Cl), grK f d l ks = some (ks', rest) → rest <:+ l) := by
  induction f with
  | zero => exact ⟨fun l r rest h => by simp [grF] at h, fun d l ks ks' rest h => by simp [grK] at h⟩
  | succ f ih =>
    refine ⟨fun l r rest h => ?_, fun d l ks ks' rest h => ?_⟩
    · cases l with
      | nil => simp [grF] at h
      | cons c t =>
        rw [grF_cons] at h
        split at h
        · cases h
        · rename_i ks rest' hK
          simp only [Option.some.injEq, Prod.mk.injEq] at h
          obtain ⟨_, rfl⟩ := h
          have := ih.2 _ _ _ _ _ hK
          exact ⟨this.trans (List.suffix_cons _ _), by have := this.length_le; simp only [List.length_cons]; omega⟩
    · cases l with
      | nil => rw [grK_nil] at h; simp only [Option.some.injEq, Prod.mk.injEq] at h; rw [← h.2]; exact List.suffix_rfl
      | cons e t =>
        rw [grK_cons] at h
        split at h
        · split at h
          · cases h
          · rename_i k rest' hF
            exact (ih.2 _ _ _ _ _ h).trans (ih.1 _ _ _ hF).1
        · simp only [Option.some.injEq, Prod.mk.injEq] at h; rw [← h.2]; exact List.suffix_rfl

def GrPost (w : World) (r : R) (nx : Nat) (e : Ending) (w' : World) : Prop :=
  ∃ a c, e = .returned (.tuple #[.agg #[.int .i64 r.kind, .int .i64 r.w, .int .i64 r.h, .int .i64 r.id, .slice a r.kids.length c], .int .i64 nx]) ∧ NKS (fun b => w.heap.size ≤ b ∧ b < w'.heap.size) w' (.slice a r.kids.length c) r ∧ Below w.heap.size w w'

def GrSaid (n : Nat) : Prop := ∀ (f : Nat) (l : List Cl) (i nx : Nat) (r : R) (v : Value) (w : World), f ≤ n → Reads w v l → l.length ≤ 64 → nx ≤ l.length → grF f (l.drop i) = some (r, l.drop nx) → Calls Try.prog 124 #[v, .int .i64 i] w fun e w' => GrPost w r nx e w'

structure GrLoop (w : World) (n : Nat) (l : List Cl) (c : Cl) (fin : List R × List Cl) (i : Nat) (f : Nat) (ks : List R) (v : Value) (wr : World) : Prop where
  fuel : f ≤ n
  gr : grK f c.d (l.drop i) ks = some fin
  few : ks.length ≤ i
  own : NOwn wr (w.heap.size + 3) (fun b => w.heap.size + 3 ≤ b ∧ b < wr.heap.size) v ks
  bel : Below w.heap.size w wr
  box4 : wr.heap[w.heap.size]? = some (.cells #[.int .i64 0, .int .i64 0, .int .i64 0, .int .i64 0, .slice none 0 0] 88 (0, 0))
  box6 : wr.heap[w.heap.size + 1]? = some (.cells #[.int .i64 c.d, .int .i64 c.k, .int .i64 c.x, .int .i64 c.y, .int .i64 c.w, .int .i64 c.h, .int .i64 c.p] 53 (0, 0))
  box7 : wr.heap[w.heap.size + 1 + 1]? = some (.cells #[.int .i64 c.k, .int .i64 c.w, .int .i64 c.h, .int .i64 c.p, v] 88 (0, 0))

/-- The loop behind a child's call. -/
structure GrMid (w : World) (c : Cl) (ks : List R) (r : R) (v s : Value) (w2 : World) : Prop where
  own : NOwn w2 (w.heap.size + 3) (fun b => w.heap.size + 3 ≤ b ∧ b < w2.heap.size) v ks
  kid : NKS (fun b => (w.heap.size + 3 ≤ b ∧ b < w2.heap.size) ∧ v.ownBlock ≠ some b) w2 s r
  bel : Below w.heap.size w w2
  box4 : w2.heap[w.heap.size]? = some (.cells #[.int .i64 0, .int .i64 0, .int .i64 0, .int .i64 0, .slice none 0 0] 88 (0, 0))
  box6 : w2.heap[w.heap.size + 1]? = some (.cells #[.int .i64 c.d, .int .i64 c.k, .int .i64 c.x, .int .i64 c.y, .int .i64 c.w, .int .i64 c.h, .int .i64 c.p] 53 (0, 0))
  box7 : w2.heap[w.heap.size + 1 + 1]? = some (.cells #[.int .i64 c.k, .int .i64 c.w, .int .i64 c.h, .int .i64 c.p, v] 88 (0, 0))

theorem NOwn.lt {w : World} {B : Nat} {S : Nat → Prop} {v : Value} {rs : List R} (h : NOwn w B S v rs) {k : Nat} (hk : v.ownBlock = some k) : B ≤ k ∧ k < w.heap.size := by
  obtain ⟨ss, _, h2, _⟩ := h
  exact World.ownsRow.lt h2 k hk

theorem gr_mid {w wr wq w2 : World} {n : Nat} {l : List Cl} {c : Cl} {fin : List R × List Cl} {j f : Nat} {ks : List R} {v s : Value} {r : R} (hL : GrLoop w n l c fin j f ks v wr) (hq : wq.heap = wr.heap) (hq2 : Below w.heap.size w wq) (hk : NKS (fun b => wq.heap.size ≤ b ∧ b < w2.heap.size) w2 s r) (hb : Below wq.heap.size wq w2) : GrMid w c ks r v s w2 := by
  have h7 := blk_lt hL.box7
  have hsz := hb.size
  have hqs : wq.heap.size = wr.heap.size := by rw [hq]
  refine ⟨?_, hk.upd (fun b hb => ⟨⟨by omega, hb.2⟩, fun e => by have := (hL.own.lt e).2; omega⟩) (fun _ _ => rfl), hq2.trans (hb.mono hq2.size), ?_, ?_, ?_⟩
  · obtain ⟨ss, h1, h2, h3⟩ := hL.own
    refine ⟨ss, h1, ?_, fun i r s hr hs => (h3 i r s hr hs).upd (fun b hb => ⟨⟨hb.1.1, by omega⟩, hb.2⟩) (fun b hb' => by rw [hb.block b (by omega), hq])⟩
    have : wq.ownsRow (w.heap.size + 3) 88 5 v ks.length (rowVals ks ss) := by
      unfold World.ownsRow at h2 ⊢
      rw [hq]; exact h2
    exact ownsRow_upd this (Upd.of_below (fun _ => False) hb) (by simp)
  · rw [hb.block _ (by omega), hq]; exact hL.box4
  · rw [hb.block _ (by omega), hq]; exact hL.box6
  · rw [hb.block _ (by omega), hq]; exact hL.box7

theorem gr_step {w w2 wa w3 : World} {n : Nat} {l : List Cl} {c : Cl} {fin : List R × List Cl} {nj f nk : Nat} {ks : List R} {v s : Value} {ss : List Value} {r : R} {g cap : Nat} (hnk : ks.length = nk) (hM : GrMid w c ks r v s w2) (hua : Upd (fun _ => False) w2 wa) (hf : f ≤ n) (hgr : grK f c.d (l.drop nj) (ks ++ [r]) = some fin) (hfew : nk + 1 ≤ nj)
    (h1 : ss.length = nk) (h3 : ∀ (i : Nat) (r : R) (s : Value), ks[i]? = some r → ss[i]? = some s → NKS (fun b => (w.heap.size + 3 ≤ b ∧ b < w2.heap.size) ∧ v.ownBlock ≠ some b) w2 s r)
    (hown : w3.ownsRow (w.heap.size + 3) 88 5 (.slice (some ⟨g, 0, none⟩) (nk + 1) cap) (nk + 1) (rowVals ks ss ++ nvals r s)) (hg : wa.grownBy w3 v.ownBlock) (hat : v.ownBlock = some g ∨ g = wa.heap.size) :
    GrLoop w n l c fin nj f (ks ++ [r]) (.slice (some ⟨g, 0, none⟩) (nk + 1) cap) (w3.setCell ⟨w.heap.size + 1 + 1, 4, none⟩ (.slice (some ⟨g, 0, none⟩) (nk + 1) cap)) := by
  subst hnk
  have hv : ∀ k, v.ownBlock = some k → w.heap.size + 3 ≤ k ∧ k < w2.heap.size := fun k hk => hM.own.lt hk
  have s2 := hua.size
  have s3 := hg.size
  have b7 := blk_lt hM.box7
  have hg3 : w.heap.size + 3 ≤ g := by
    rcases hat with e | e
    · exact (hv g e).1
    · omega
  have mvA : ∀ {r : R} {s : Value}, NKS (fun b => (w.heap.size + 3 ≤ b ∧ b < w2.heap.size) ∧ v.ownBlock ≠ some b) w2 s r → NKS (fun b => (w.heap.size + 3 ≤ b ∧ b < wa.heap.size) ∧ v.ownBlock ≠ some b) wa s r :=
    fun h => h.upd (fun b hb => ⟨⟨hb.1.1, by have := hb.1.2; omega⟩, hb.2⟩) (fun b hb => hua.block b hb.1.2 (fun h => h))
  have hN := NOwn.app (w := wa) (w' := w3) (B := w.heap.size + 3) (S := fun b => w.heap.size + 3 ≤ b ∧ b < wa.heap.size) (v := v) (rs := ks) (rs' := [r]) (ss := ss) (ss' := [s]) (g := g) (cap := cap) h1 rfl
    (fun i r s hr hs => mvA (h3 i r s hr hs))
    (fun i r' s' hr hs => by
      cases i with
      | zero =>
        simp only [List.getElem?_cons_zero, Option.some.injEq] at hr hs
        subst hr hs
        exact mvA hM.kid
      | succ i => simp at hr)
    (fun b hb => hb.2) (by simpa [rowVals] using hown) hg hat
  have hu3 : Upd (fun k => v.ownBlock = some k) w2 w3 := (hua.mono fun _ _ h => h.elim).grown hg (fun k _ e => e)
  have far : ∀ {k : Nat} {o : Obj}, w2.heap[k]? = some o → k < w.heap.size + 3 → w3.heap[k]? = some o := fun h hk => blk_upd h hu3 (fun e => by have := (hv _ e).1; omega)
  refine ⟨hf, hgr, by simpa using hfew, ?_, ?_, ?_, ?_, ?_⟩
  · have := hN.upd (w' := w3.setCell ⟨w.heap.size + 1 + 1, 4, none⟩ (.slice (some ⟨g, 0, none⟩) (ks.length + 1) cap)) (S' := fun b => w.heap.size + 3 ≤ b ∧ b < (w3.setCell ⟨w.heap.size + 1 + 1, 4, none⟩ (.slice (some ⟨g, 0, none⟩) (ks.length + 1) cap)).heap.size) (U := fun b => b = w.heap.size + 1 + 1)
      ((Upd.refl _ w3).setCell _ _ (fun _ => rfl)) (fun b hb _ => ⟨by omega, by have := hb.1; omega⟩) (fun b hb => ⟨hb.1, by rw [World.size_setCell]; omega⟩) (fun b hb => by
        simp only [Value.ownBlock, Option.some.injEq] at hb
        omega)
    exact this
  · have hB : Below w.heap.size w w3 := ((hM.bel.trans ((hua.belowNone).mono hM.bel.size))).grown hg (by have := hM.bel.size; omega) (fun k hk => by have := (hv k hk).1; omega)
    exact hB.setCell (by simp only []; omega) _
  · exact blk_far (far hM.box4 (by omega)) _ _ (by simp only []; omega)
  · exact blk_far (far hM.box6 (by omega)) _ _ (by simp only []; omega)
  · rw [blk_set (far hM.box7 (by omega)) 4]; simp

theorem gr_fin {w wr : World} {n : Nat} {l : List Cl} {c : Cl} {ks : List R} {nx j f : Nat} {ks' : List R} {v : Value} {e : Cl} (hL : GrLoop w n l c (ks, l.drop nx) j f ks' v wr) (hgo : some (ks', e :: l.drop (j + 1)) = some (ks, l.drop nx)) (hdr : l.drop j = e :: l.drop (j + 1)) (hj : j < l.length) (hnx : nx ≤ l.length) : ks' = ks ∧ nx = j := by
  simp only [Option.some.injEq, Prod.mk.injEq] at hgo
  refine ⟨hgo.1, ?_⟩
  rw [← hdr] at hgo
  have := congrArg List.length hgo.2
  simp only [List.length_drop] at this
  omega

theorem load88 (w : World) (g : Nat) (cs : Array Value) (hg : w.heap[g]? = some (.cells cs 88 (0, 0))) (hs : cs.size = 5) : (loadVar 88 ⟨g, 0, none⟩).run Try.prog w = .ok (.agg cs) w := by
  obtain ⟨i0, hi0, _, hz1, _⟩ := info_parts info88
  exact run_loadVar_row w g 88 88 cs (0, 0) _ hg Try.underlying88 rfl (by rw [hi0]; simp [hz1, hs])

theorem res_node2 {fn : Func} {p u : Tmp} (h : fn.results = #[.cell p 88, .tmp u]) (tmps : Array Value) (w : World) (g : Nat) (cs : Array Value) (hp : tmps.getD p undef = .pointer (some ⟨g, 0, none⟩)) (hg : w.heap[g]? = some (.cells cs 88 (0, 0))) (hs : cs.size = 5) :
    (results fn tmps).run Try.prog w = .ok (.tuple #[.agg cs, tmps.getD u undef]) w := by
  have hl := load88 w g cs hg hs
  rw [results_cell_tmp h, hp]
  simp [asAddr, Result.andThen, hl]

theorem res_node1 {fn : Func} {p : Tmp} (h : fn.results = #[.cell p 88]) (tmps : Array Value) (w : World) (g : Nat) (cs : Array Value) (hp : tmps.getD p undef = .pointer (some ⟨g, 0, none⟩)) (hg : w.heap[g]? = some (.cells cs 88 (0, 0))) (hs : cs.size = 5) :
    (results fn tmps).run Try.prog w = .ok (.agg cs) w := by
  obtain ⟨i0, hi0, _, hz1, _⟩ := info_parts info88
  exact results_cell_row h tmps w g 88 cs (0, 0) _ hp hg Try.underlying88 rfl (by rw [hi0]; simp [hz1, hs])

/-- Five cells of a block, written one by one. -/
theorem set5 {w : World} {b : Nat} {cs : Array Value} {t : TypeId} (h : w.heap[b]? = some (.cells cs t (0, 0))) (hs : cs.size = 5) (v0 v1 v2 v3 v4 : Value) :
    (((((w.setCell ⟨b, 0, none⟩ v0).setCell ⟨b, 1, none⟩ v1).setCell ⟨b, 2, none⟩ v2).setCell ⟨b, 3, none⟩ v3).setCell ⟨b, 4, none⟩ v4).heap[b]? = some (.cells #[v0, v1, v2, v3, v4] t (0, 0)) ∧
    Upd (fun k => k = b) w (((((w.setCell ⟨b, 0, none⟩ v0).setCell ⟨b, 1, none⟩ v1).setCell ⟨b, 2, none⟩ v2).setCell ⟨b, 3, none⟩ v3).setCell ⟨b, 4, none⟩ v4) := by
  refine ⟨?_, (((((Upd.refl (fun k => k = b) w).setCell ⟨b, 0, none⟩ v0 (fun _ => rfl)).setCell ⟨b, 1, none⟩ v1 (fun _ => rfl)).setCell ⟨b, 2, none⟩ v2 (fun _ => rfl)).setCell ⟨b, 3, none⟩ v3 (fun _ => rfl)).setCell ⟨b, 4, none⟩ v4 (fun _ => rfl)⟩
  rw [blk_set (blk_set (blk_set (blk_set (blk_set h 0 v0) 1 v1) 2 v2) 3 v3) 4 v4]
  obtain ⟨l⟩ := cs
  simp only [List.size_toArray] at hs
  match l, hs with
  | [a0, a1, a2, a3, a4], _ => simp

theorem NOwn.nks {w : World} {B : Nat} {S S' : Nat → Prop} {v : Value} {rs : List R} (h : NOwn w B S v rs) (k W H i : Int) (hs : ∀ b, S b → S' b) (hv : ∀ b, v.ownBlock = some b → S' b) : NKS S' w v (.mk k W H i rs) := by
  obtain ⟨s, h1, h2⟩ := h.node k W H i hs hv
  simp only [nval, Value.agg.injEq, Array.mk.injEq, List.cons.injEq, and_true, true_and] at h1
  rw [h1.2.2.2.2]; exact h2

theorem gr_end {w wr w9 : World} {n : Nat} {l : List Cl} {c : Cl} {ks : List R} {nx j f : Nat} {ks' : List R} {va : Option Addr} {vc : Nat} (hL : GrLoop w n l c (ks, l.drop nx) j f ks' (.slice va ks'.length vc) wr) (hf : ks' = ks ∧ nx = j) (hu : Upd (fun k => k = w.heap.size) wr w9) :
    GrPost w (.mk c.k c.w c.h c.p ks) nx (.returned (.tuple #[.agg #[.int .i64 c.k, .int .i64 c.w, .int .i64 c.h, .int .i64 c.p, .slice va ks'.length vc], .int .i64 j])) w9 := by
  obtain ⟨rfl, rfl⟩ := hf
  have hv : ∀ k, (Value.slice va ks'.length vc).ownBlock = some k → w.heap.size + 3 ≤ k ∧ k < wr.heap.size := fun k hk => hL.own.lt hk
  have s9 := hu.size
  have h9 : NOwn w9 (w.heap.size + 3) (fun b => w.heap.size + 3 ≤ b ∧ b < wr.heap.size) (.slice va ks'.length vc) ks' := hL.own.upd hu (fun b hb _ => ⟨hb.2, by have := hb.1; omega⟩) (fun b hb => hb) (fun b hb => by have := (hv b hb).1; omega)
  refine ⟨va, vc, rfl, h9.nks _ _ _ _ (fun b hb => ⟨by have := hb.1; omega, by have := hb.2; omega⟩) (fun b hb => ⟨by have := (hv b hb).1; omega, by have := (hv b hb).2; omega⟩), ?_⟩
  exact hL.bel.trans (hu.below _ hL.bel.size (fun k _ e => by omega))

set_option maxRecDepth 100000 in
set_option maxHeartbeats 2000000 in
theorem gr_node (n : Nat) (ih : Hid (GrSaid n)) (b off m cap : Nat) (l : List Cl) (c : Cl) (i nx : Nat) (ks : List R) (w : World) (hm : Hid (l.length = m)) (hm64 : m ≤ 64) (hi : i < m) (hcap : m ≤ cap) (hcap2 : cap ≤ maxLen) (hnx : nx ≤ m) (hc : Hid (l[i]? = some c))
    (hcells : Hid (∀ (i : Nat) (e : Cl), l[i]? = some e → ∀ j, j < 7 → w.cell? ⟨b, off + i * 7 + j, none⟩ = e.vals[j]?)) (hb : b < w.heap.size)
    (hgr : Hid (grK n c.d (l.drop (i + 1)) [] = some (ks, l.drop nx))) :
    Calls Try.prog 124 #[.slice (some ⟨b, off, none⟩) m cap, .int .i64 i] w fun e w' => GrPost w (.mk c.k c.w c.h c.p ks) nx e w' := by
  have g := hcells.out i c hc.out
  have a0 := g 0 (by omega); have a1 := g 1 (by omega); have a2 := g 2 (by omega); have a3 := g 3 (by omega); have a4 := g 4 (by omega); have a5 := g 5 (by omega); have a6 := g 6 (by omega)
  clear g
  simp only [Cl.vals, List.getElem?_cons_zero, List.getElem?_cons_succ, Nat.add_zero] at a0 a1 a2 a3 a4 a5 a6
  obtain ⟨i0, hi0, hz0, hz1, hz2⟩ := info_parts info88
  have Hi := Lib.hid hi0; have Hz0 := Lib.hid hz0; have Hz1 := Lib.hid hz1; have Hz2 := Lib.hid hz2
  clear hi0 hz0 hz1 hz2
  unfold maxLen at hcap2
  go_enter Try.func124, Try.ntmps124
  go_wp2_with fail
  go_loopw [8] (fun iv wr => ∃ (j f : Nat) (ks' : List R) (v' : Value), j ≤ m ∧ iv = .int .i64 j ∧ GrLoop w n l c (ks, l.drop nx) j f ks' v' wr) (fun iv _ => m - (intOf iv).toNat)
  case atStart =>
    refine ⟨i + 1, n, [], .slice none 0 0, hi, by simp, Nat.le_refl _, hgr.out, Nat.zero_le _, NOwn.nil _ _ _, ?_, ?_, ?_, ?_⟩
    · exact (((Below.refl _ _).alloc (Nat.le_refl _) _).alloc (by simp) _).alloc (by simp; omega) _
    · exact blk_alloc (blk_alloc (heap_alloc_new w _) _) _
    · have := heap_alloc_new (w.alloc (.cells #[.int .i64 0, .int .i64 0, .int .i64 0, .int .i64 0, .slice none 0 0] 88)) (.cells #[.int .i64 c.d, .int .i64 c.k, .int .i64 c.x, .int .i64 c.y, .int .i64 c.w, .int .i64 c.h, .int .i64 c.p] 53)
      rw [World.size_alloc] at this
      exact blk_alloc this _
    · have := heap_alloc_new ((w.alloc (.cells #[.int .i64 0, .int .i64 0, .int .i64 0, .int .i64 0, .slice none 0 0] 88)).alloc (.cells #[.int .i64 c.d, .int .i64 c.k, .int .i64 c.x, .int .i64 c.y, .int .i64 c.w, .int .i64 c.h, .int .i64 c.p] 53)) (.cells #[.int .i64 c.k, .int .i64 c.w, .int .i64 c.h, .int .i64 c.p, .slice none 0 0] 88)
      rw [World.size_alloc, World.size_alloc] at this
      exact this
  case round =>
    obtain ⟨j, f, ks', v', hj, rfl, hL⟩ := hrel
    have d0 : wr.cell? ⟨w.heap.size + 1, 0, none⟩ = some (.int .i64 c.d) := blk_cell hL.box6 0
    have hb6 : w.heap.size + 1 < wr.heap.size := blk_lt hL.box6
    have hb7 : w.heap.size + 1 + 1 < wr.heap.size := blk_lt hL.box7
    have hgo := hL.gr
    by_cases hlt : j < m
    · obtain ⟨e, he⟩ : ∃ e, l[j]? = some e := ⟨l[j]'(by rw [hm.out]; exact hlt), by simp⟩
      have hdr : l.drop j = e :: l.drop (j + 1) := by
        obtain ⟨hj', rfl⟩ := List.getElem?_eq_some_iff.1 he
        rw [List.getElem_cons_drop]
      have k0 : wr.cell? ⟨b, off + j * 7, none⟩ = some (.int .i64 e.d) := (hL.bel.cell (p := ⟨b, off + j * 7, none⟩) hb).trans (hcells.out j e he 0 (by omega))
      rw [hdr] at hgo
      obtain ⟨f, rfl⟩ : ∃ g, f = g + 1 := by
        cases f with
        | zero => simp [grK] at hgo
        | succ f => exact ⟨f, rfl⟩
      rw [grK_cons] at hgo
      by_cases hd : c.d < e.d
      · rw [if_pos hd] at hgo
        split at hgo
        · cases hgo
        · rename_i r rest hF
          obtain ⟨hs1, hs2⟩ := (gr_suffix _).1 _ _ _ hF
          have hml := hm.out
          obtain ⟨nj, hnj1, hnj2, rfl⟩ : ∃ nj, j < nj ∧ nj ≤ m ∧ rest = l.drop nj := by
            have e1 := List.suffix_iff_eq_drop.1 hs1
            have e2 := hs1.length_le
            simp only [List.length_cons, List.length_drop] at e1 e2 hs2
            refine ⟨l.length - rest.length, by omega, by omega, ?_⟩
            have e3 : rest = (l.drop j).drop ((l.drop j).length - rest.length) := by rw [hdr]; exact List.suffix_iff_eq_drop.1 hs1
            rw [List.drop_drop, List.length_drop, show j + (l.length - j - rest.length) = l.length - rest.length by omega] at e3
            exact e3
          rw [← hdr] at hF
          have hC := fun q => ih.out f l j nj r (.slice (some ⟨b, off, none⟩) m cap) (wr.drewN q) (by have := hL.fuel; omega) ⟨some ⟨b, off, none⟩, cap, by rw [hm.out], by rw [hm.out]; exact hcap, ⟨by unfold maxLen; omega, by have := hm.out; omega⟩, fun _ => ⟨b, off, rfl, fun i e hi' q hq => (hL.bel.cell (p := ⟨b, off + i * 7 + q, none⟩) hb).trans (hcells.out i e hi' q hq)⟩⟩ (by have := hm.out; omega) (by have := hm.out; omega) hF
          have hC2 : ∀ q, Calls Try.prog 124 #[.slice (some ⟨b, off, none⟩) m cap, .int .i64 j] (wr.drewN q) fun e w2 => ∃ sa sc, e = .returned (.tuple #[.agg #[.int .i64 r.kind, .int .i64 r.w, .int .i64 r.h, .int .i64 r.id, .slice sa r.kids.length sc], .int .i64 nj]) ∧ GrMid w c ks' r v' (.slice sa r.kids.length sc) w2 := fun q =>
            (hC q).mono fun e w2 ⟨sa, sc, h1, h2, h3⟩ => ⟨sa, sc, h1, gr_mid (wq := wr.drewN q) hL rfl (below_drewN hL.bel q) h2 h3⟩
          have HC := Lib.hid hC2; have HGO := Lib.hid hgo
          have hfew := hL.few; have hfuel := hL.fuel
          clear hC hC2 hL hgo hF hs1 hs2 hdr hml
          go_wp2_with fail
          go_quiet (fail)
          go_wp2_with fail
          refine (HC.out _).mono ?_
          rintro e2 w2 ⟨sa, sc, rfl, hM⟩
          obtain ⟨va, vc, hv⟩ := hM.own.slice
          obtain ⟨ss, h1, h2, h3⟩ := hM.own
          subst hv
          have e4 : w2.cell? ⟨w.heap.size + 1 + 1, 4, none⟩ = some (.slice va ks'.length vc) := blk_cell hM.box7 4
          have b7 := blk_lt hM.box7
          have hne7 : (Value.slice va ks'.length vc).ownBlock ≠ some (w.heap.size + 1 + 1) := fun e => by have := (hM.own.lt e).1; omega
          have HM := Lib.hid hM; have H1 := Lib.hid h1; have H2 := Lib.hid h2; have H3 := Lib.hid h3; have HNE := Lib.hid hne7
          clear hM h1 h2 h3 hne7 HC d0 k0
          have hks : ks'.length ≤ 64 := by omega
          generalize hnk : ks'.length = nk at *
          have HNK := Lib.hid hnk; clear hnk
          go_wp2_with (at_builtin; go_must (refine wpList_append_lies _ rfl (.tmp 47) (.tmp 49) 86 rfl (w.heap.size + 3) 88 i0 _ 5 56 Try.underlying86 Hi.out Hz0.out Hz1.out Hz2.out rfl (by decide) (.slice va nk vc) _ _ rfl (ownsRow_upd H2.out (((Upd.refl (fun _ => False) w2).alloc (.cells #[.int .i64 r.kind, .int .i64 r.w, .int .i64 r.h, .int .i64 r.id, .slice sa r.kids.length sc] 88)).alloc (.cells #[.int .i64 r.kind, .int .i64 r.w, .int .i64 r.h, .int .i64 r.id, .slice sa r.kids.length sc] 88)) (by simp)) ⟨w2.heap.size + 1, 0, none⟩ 1 1 (nvals r (.slice sa r.kids.length sc)) rfl rfl (World.news_of_block (cs := #[.int .i64 r.kind, .int .i64 r.w, .int .i64 r.h, .int .i64 r.id, .slice sa r.kids.length sc]) (t := 88) (fr := (0, 0)) (by have := heap_alloc_new (w2.alloc (.cells #[.int .i64 r.kind, .int .i64 r.w, .int .i64 r.h, .int .i64 r.id, .slice sa r.kids.length sc] 88)) (.cells #[.int .i64 r.kind, .int .i64 r.w, .int .i64 r.h, .int .i64 r.id, .slice sa r.kids.length sc] 88); rw [World.size_alloc] at this; exact this)) (by simp [nvals, Value.oneCell']) (by omega) (by unfold maxLen; omega) (by omega) (by simp; omega) (w2.heap.size + 2) (by simp) ?_); intro g3 cap3 w3 hown3 hgrow3 hat3 hlt3; have hst := fun hf hgr hfew => gr_step (n := n) (l := l) (c := c) (fin := (ks, l.drop nx)) (nj := nj) (f := f) HNK.out HM.out (((Upd.refl (fun _ => False) w2).alloc (.cells #[.int .i64 r.kind, .int .i64 r.w, .int .i64 r.h, .int .i64 r.id, .slice sa r.kids.length sc] 88)).alloc (.cells #[.int .i64 r.kind, .int .i64 r.w, .int .i64 r.h, .int .i64 r.id, .slice sa r.kids.length sc] 88)) hf hgr hfew H1.out H3.out hown3 hgrow3 (by simpa using hat3); have HST := Lib.hid hst; clear hst; have e7 := (hgrow3.block (w.heap.size + 1 + 1) (by simp; omega) (Ne.symm HNE.out)).trans (blk_alloc (blk_alloc HM.out.box7 _) _); have g4 := blk_cell e7 4; have g5 := blk_free e7 4; clear hown3 hgrow3 hat3 hlt3 e7 e4)
          exact ⟨⟨nj, f, _, _, hnj2, rfl, HST.out (by omega) HGO.out (by omega)⟩, by simp [intOf]; omega⟩
      · rw [if_neg hd] at hgo
        have hfin := gr_fin hL hgo hdr (by have := hm.out; omega) (by have := hm.out; omega)
        clear hgo hdr
        obtain ⟨va, vc, hv⟩ := hL.own.slice
        subst hv
        have s0 : wr.cell? ⟨w.heap.size + 1 + 1, 0, none⟩ = some (.int .i64 c.k) := blk_cell hL.box7 0
        have s1 : wr.cell? ⟨w.heap.size + 1 + 1, 1, none⟩ = some (.int .i64 c.w) := blk_cell hL.box7 1
        have s2 : wr.cell? ⟨w.heap.size + 1 + 1, 2, none⟩ = some (.int .i64 c.h) := blk_cell hL.box7 2
        have s3 : wr.cell? ⟨w.heap.size + 1 + 1, 3, none⟩ = some (.int .i64 c.p) := blk_cell hL.box7 3
        have s4 : wr.cell? ⟨w.heap.size + 1 + 1, 4, none⟩ = some (.slice va ks'.length vc) := blk_cell hL.box7 4
        have r0 : wr.cell? ⟨w.heap.size, 0, none⟩ = some (.int .i64 0) := blk_cell hL.box4 0
        have r1 : wr.cell? ⟨w.heap.size, 1, none⟩ = some (.int .i64 0) := blk_cell hL.box4 1
        have r2 : wr.cell? ⟨w.heap.size, 2, none⟩ = some (.int .i64 0) := blk_cell hL.box4 2
        have r3 : wr.cell? ⟨w.heap.size, 3, none⟩ = some (.int .i64 0) := blk_cell hL.box4 3
        have r4 : wr.cell? ⟨w.heap.size, 4, none⟩ = some (.slice none 0 0) := blk_cell hL.box4 4
        have q0 := blk_free hL.box4 0
        have q1 := blk_free hL.box4 1
        have q2 := blk_free hL.box4 2
        have q3 := blk_free hL.box4 3
        have q4 := blk_free hL.box4 4
        have HL := Lib.hid hL; have HFIN := Lib.hid hfin
        clear hL hfin
        go_wp2_with fail
        go_quiet (fail)
        go_wp2_with fail
        (try simp only [Exit.inBlock, Exit.then])
        have hs5 := fun q => set5 (w := wr.drewN q) (b := w.heap.size) (t := 88) HL.out.box4 rfl (.int .i64 c.k) (.int .i64 c.w) (.int .i64 c.h) (.int .i64 c.p) (.slice va ks'.length vc)
        refine bodyPost_ret (res_node2 rfl _ _ w.heap.size _ rfl (hs5 _).1 rfl) rfl ?_
        exact gr_end HL.out HFIN.out (((Upd.refl _ wr).drewN _).then_ (hs5 _).2 (fun _ _ e => e))
    · have hfin : ks' = ks ∧ nx = j := by
        have hd0 : l.drop j = [] := List.drop_eq_nil_of_le (by have := hm.out; omega)
        rw [hd0] at hgo
        obtain ⟨f, rfl⟩ : ∃ g, f = g + 1 := by
          cases f with
          | zero => simp [grK] at hgo
          | succ f => exact ⟨f, rfl⟩
        rw [grK_nil] at hgo
        simp only [Option.some.injEq, Prod.mk.injEq] at hgo
        have := congrArg List.length hgo.2
        simp only [List.length_nil, List.length_drop] at this
        exact ⟨hgo.1, by have := hm.out; omega⟩
      clear hgo
      obtain ⟨va, vc, hv⟩ := hL.own.slice
      subst hv
      have s0 : wr.cell? ⟨w.heap.size + 1 + 1, 0, none⟩ = some (.int .i64 c.k) := blk_cell hL.box7 0
      have s1 : wr.cell? ⟨w.heap.size + 1 + 1, 1, none⟩ = some (.int .i64 c.w) := blk_cell hL.box7 1
      have s2 : wr.cell? ⟨w.heap.size + 1 + 1, 2, none⟩ = some (.int .i64 c.h) := blk_cell hL.box7 2
      have s3 : wr.cell? ⟨w.heap.size + 1 + 1, 3, none⟩ = some (.int .i64 c.p) := blk_cell hL.box7 3
      have s4 : wr.cell? ⟨w.heap.size + 1 + 1, 4, none⟩ = some (.slice va ks'.length vc) := blk_cell hL.box7 4
      have r0 : wr.cell? ⟨w.heap.size, 0, none⟩ = some (.int .i64 0) := blk_cell hL.box4 0
      have r1 : wr.cell? ⟨w.heap.size, 1, none⟩ = some (.int .i64 0) := blk_cell hL.box4 1
      have r2 : wr.cell? ⟨w.heap.size, 2, none⟩ = some (.int .i64 0) := blk_cell hL.box4 2
      have r3 : wr.cell? ⟨w.heap.size, 3, none⟩ = some (.int .i64 0) := blk_cell hL.box4 3
      have r4 : wr.cell? ⟨w.heap.size, 4, none⟩ = some (.slice none 0 0) := blk_cell hL.box4 4
      have q0 := blk_free hL.box4 0
      have q1 := blk_free hL.box4 1
      have q2 := blk_free hL.box4 2
      have q3 := blk_free hL.box4 3
      have q4 := blk_free hL.box4 4
      have HL := Lib.hid hL; have HFIN := Lib.hid hfin
      clear hL hfin
      go_wp2_with fail
      go_quiet (fail)
      go_wp2_with fail
      (try simp only [Exit.inBlock, Exit.then])
      have hs5 := fun q => set5 (w := wr.drewN q) (b := w.heap.size) (t := 88) HL.out.box4 rfl (.int .i64 c.k) (.int .i64 c.w) (.int .i64 c.h) (.int .i64 c.p) (.slice va ks'.length vc)
      refine bodyPost_ret (res_node2 rfl _ _ w.heap.size _ rfl (hs5 _).1 rfl) rfl ?_
      exact gr_end HL.out HFIN.out (((Upd.refl _ wr).drewN _).then_ (hs5 _).2 (fun _ _ e => e))

theorem gr_any (n : Nat) : GrSaid n := by
  induction n with
  | zero =>
    intro f l i nx r v w hf hr hl hnx hg
    obtain rfl : f = 0 := by omega
    simp [grF] at hg
  | succ n ih =>
    intro f l i nx r v w hf hr hl hnx hg
    by_cases h : f ≤ n
    · exact ih f l i nx r v w h hr hl hnx hg
    · obtain rfl : f = n + 1 := by omega
      obtain ⟨a, cap, rfl, h1, h2, h3⟩ := hr
      by_cases hi : i < l.length
      · obtain ⟨c, hc⟩ : ∃ c, l[i]? = some c := ⟨l[i]'hi, by simp⟩
        have hdr : l.drop i = c :: l.drop (i + 1) := by
          obtain ⟨hj', rfl⟩ := List.getElem?_eq_some_iff.1 hc
          rw [List.getElem_cons_drop]
        obtain ⟨b, off, rfl, h4⟩ := h3 (by omega)
        rw [hdr, grF_cons] at hg
        split at hg
        · cases hg
        · rename_i ks rest hK
          simp only [Option.some.injEq, Prod.mk.injEq] at hg
          obtain ⟨rfl, rfl⟩ := hg
          have hb : b < w.heap.size := by
            have := h4 i c hc 0 (by omega)
            exact World.block_lt_of_cell? w ⟨b, off + i * 7 + 0, none⟩ (u := .int .i64 c.d) (by rw [this]; rfl)
          exact gr_node n ih b off l.length cap l c i nx ks w rfl hl hi h1 h2.1 hnx hc h4 hb hK
      · rw [List.drop_eq_nil_of_le (by omega), grF] at hg
        cases hg

end Go.Proofs.Ytpehceccnjdfeaa
