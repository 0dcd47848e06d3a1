/- The reference's cut: a row or column. -/
import Derived.Test.YtpehceccnjdfeaaJ2
namespace Go.Proofs.Ytpehceccnjdfeaa
open Go.RowKit

theorem leafCut_kids (kind size : Int) (before : Bool) (id W H p : Int) (hk : kind = 2 ∨ kind = 3) : (leafCut kind size before id W H p).kind = kind ∧ (leafCut kind size before id W H p).kids.length = 2 := by
  have h1 : ¬ (1 : Int) = kind := by omega
  have hj : ∀ a b : R, a.kind = 1 → b.kind = 1 → (joinedF (joinedF [] kind a) kind b).length = 2 := by
    intro a b ha hb
    unfold joinedF
    rw [ha, hb, if_neg h1, if_neg h1]; rfl
  unfold leafCut
  simp only []
  split
  · exact ⟨rfl, hj _ _ rfl rfl⟩
  · exact ⟨rfl, hj _ _ rfl rfl⟩

theorem cutR_mk (pane kind size : Int) (before : Bool) (id k W H i : Int) (kids : List R) : (R.mk k W H i kids).cutR pane kind size before id = if k = 1 then if i = pane then leafCut kind size before id W H pane else .mk k W H i kids else .mk k W H i (cutRL pane kind size before id k [] kids) := by rw [R.cutR]
theorem cutRL_nil (pane kind size : Int) (before : Bool) (id k : Int) (acc : List R) : cutRL pane kind size before id k acc [] = acc := by rw [cutRL]
theorem cutRL_cons (pane kind size : Int) (before : Bool) (id k : Int) (acc : List R) (r : R) (rs : List R) : cutRL pane kind size before id k acc (r :: rs) = cutRL pane kind size before id k (joinedF acc k (r.cutR pane kind size before id)) rs := by rw [cutRL]
theorem cutRL_app (pane kind size : Int) (before : Bool) (id k : Int) : ∀ (l : List R) (acc : List R) (r : R), cutRL pane kind size before id k acc (l ++ [r]) = joinedF (cutRL pane kind size before id k acc l) k (r.cutR pane kind size before id)
  | [], acc, r => by rw [List.nil_append, cutRL_cons, cutRL_nil, cutRL_nil]
  | x :: l, acc, r => by rw [List.cons_append, cutRL_cons, cutRL_cons, cutRL_app]

/-- Of which kind a cut child is; how many children it gives. -/
theorem cutR_kind (pane kind size : Int) (before : Bool) (id : Int) (hk : kind = 2 ∨ kind = 3) (r : R) : (r.cutR pane kind size before id).kind = r.kind ∨ (r.kind = 1 ∧ (r.cutR pane kind size before id).kids.length = 2) := by
  obtain ⟨k, W, H, i, kids⟩ := r
  rw [cutR_mk]
  split
  · rename_i h
    split
    · right; exact ⟨h, (leafCut_kids kind size before id W H pane hk).2⟩
    · left; rfl
  · left; rfl

theorem joined_len2 {acc : List R} {k : Int} {z : R} (h : z.kind = k → z.kids.length = 2) : (joinedF acc k z).length ≤ acc.length + 2 := by
  unfold joinedF
  split
  · rename_i h1; rw [List.length_append, h h1]; exact Nat.le_refl _
  · simp

theorem cutRL_len (pane kind size : Int) (before : Bool) (id k : Int) (hk : kind = 2 ∨ kind = 3) : ∀ (l : List R) (acc : List R), (∀ r ∈ l, r.kind ≠ k) → (cutRL pane kind size before id k acc l).length ≤ acc.length + 2 * l.length
  | [], acc, _ => by rw [cutRL_nil]; simp
  | r :: l, acc, h => by
    rw [cutRL_cons]
    have h1 := cutRL_len pane kind size before id k hk l (joinedF acc k (r.cutR pane kind size before id)) (fun q hq => h q (by simp [hq]))
    have h2 := joined_len2 (acc := acc) (k := k) (z := r.cutR pane kind size before id) (fun e => by
      rcases cutR_kind pane kind size before id hk r with h3 | h3
      · exact absurd (h3 ▸ e) (h r (by simp))
      · exact h3.2)
    simp only [List.length_cons]; omega

def RCutSaid (n : Nat) : Prop := ∀ (r : R) (S : Nat → Prop) (pane kind size : Int) (before : Bool) (id : Int) (a : Option Addr) (m c : Nat) (w : World), r.depth ≤ n → r.ok → r.cnt ≤ 64 → r.kids.length = m → NKS S w (.slice a m c) r → (∀ b, S b → b < w.heap.size) → (kind = 2 ∨ kind = 3) →
  Calls Try.prog 84 #[.agg #[.int .i64 r.kind, .int .i64 r.w, .int .i64 r.h, .int .i64 r.id, .slice a m c], .int .i64 pane, .int .i64 kind, .int .i64 size, .bool before, .int .i64 id] w fun e w' => NodePost w S (r.cutR pane kind size before id) e w'

/-- A pane that is another one. -/
theorem cut_skip (S : Nat → Prop) (W H i pane kind size : Int) (a0 : Option Addr) (c0 : Nat) (before : Bool) (id : Int) (w : World) (hc : c0 ≤ maxLen) (hne : i ≠ pane) :
    Calls Try.prog 84 #[.agg #[.int .i64 1, .int .i64 W, .int .i64 H, .int .i64 i, .slice a0 0 c0], .int .i64 pane, .int .i64 kind, .int .i64 size, .bool before, .int .i64 id] w fun e w' => NodePost w S (.mk 1 W H i []) e w' := by
  have h1 : (i == pane) = false := by simpa using hne
  go_enter Try.func84, Try.ntmps84
  go_wp2_with fail
  have a1 := heap_alloc_new (w.alloc (.cells #[.int .i64 1, .int .i64 W, .int .i64 H, .int .i64 i, .slice a0 0 c0] 88)) (.cells #[.int .i64 1, .int .i64 W, .int .i64 H, .int .i64 i, .slice a0 0 c0] 88)
  rw [World.size_alloc] at a1
  (try simp only [Exit.inBlock, Exit.then])
  refine bodyPost_ret (res_node1 rfl _ _ (w.heap.size + 1) _ rfl a1 rfl) rfl ?_
  exact ⟨a0, c0, rfl, by simp only [NKS]; exact ⟨a0, c0, rfl, Nat.zero_le _, hc, fun h => absurd rfl h⟩, ((Below.refl _ _).alloc (Nat.le_refl _) _).alloc (by simp) _⟩

/-- Behind j children. -/
structure CutLoop (w : World) (S : Nat → Prop) (k W H i : Int) (bv : Array Value) (acc : List R) (v : Value) (wr : World) : Prop where
  own : NOwn wr (w.heap.size + 3) (fun b => (S b ∨ w.heap.size + 3 ≤ b) ∧ b < wr.heap.size) v acc
  bel : Below w.heap.size w wr
  box6 : wr.heap[w.heap.size]? = some (.cells bv 88 (0, 0))
  box12 : wr.heap[w.heap.size + 1]? = some (.cells #[.int .i64 0, .int .i64 0, .int .i64 0, .int .i64 0, .slice none 0 0] 88 (0, 0))
  box15 : wr.heap[w.heap.size + 1 + 1]? = some (.cells #[.int .i64 k, .int .i64 W, .int .i64 H, .int .i64 i, v] 88 (0, 0))

/-- A child's call, and its joining. -/
theorem cut_round {n : Nat} (ih : RCutSaid n) {w wr : World} {S : Nat → Prop} {a : Option Addr} {k W H i pane kind size : Int} {before : Bool} {id : Int} {kids acc : List R} {j m vl vc : Nat} {va : Option Addr} {bv : Array Value} (hbv : bv[0]? = some (.int .i64 k)) (hdep : depthL kids ≤ n) (hm : m = kids.length) (hS : ∀ b, S b → b < w.heap.size) (hk : kind = 2 ∨ kind = 3)
    (hok : ∀ r ∈ kids, r.kind ≠ k ∧ r.ok) (hcnt : cntL kids + 1 ≤ 64) (hacc : acc = cutRL pane kind size before id k [] (kids.take j)) (hvl : acc.length = vl)
    (hat : ∃ b off, a = some ⟨b, off, none⟩ ∧ S b ∧ ∀ j r, kids[j]? = some r → NAtS S w b (off + j * 5) r) (hL : CutLoop w S k W H i bv acc (.slice va vl vc) wr)
    (hlt : j < m) : ∃ (b off : Nat) (r : R) (sa : Option Addr) (sc : Nat) (L : Nat), a = some ⟨b, off, none⟩ ∧ wr.cell? ⟨b, off + j * 5, none⟩ = some (.int .i64 r.kind) ∧ wr.cell? ⟨b, off + j * 5 + 1, none⟩ = some (.int .i64 r.w) ∧
      wr.cell? ⟨b, off + j * 5 + 2, none⟩ = some (.int .i64 r.h) ∧ wr.cell? ⟨b, off + j * 5 + 3, none⟩ = some (.int .i64 r.id) ∧ wr.cell? ⟨b, off + j * 5 + 4, none⟩ = some (.slice sa r.kids.length sc) ∧
      Hid (∀ V, Same wr V → Calls Try.prog 84 #[.agg #[.int .i64 r.kind, .int .i64 r.w, .int .i64 r.h, .int .i64 r.id, .slice sa r.kids.length sc], .int .i64 pane, .int .i64 kind, .int .i64 size, .bool before, .int .i64 id] V fun e w2 =>
        ∃ (zk zw zh zi : Int) (za : Option Addr) (zl zc : Nat), e = .returned (.agg #[.int .i64 zk, .int .i64 zw, .int .i64 zh, .int .i64 zi, .slice za zl zc]) ∧ w2.cell? ⟨w.heap.size + 1 + 1, 4, none⟩ = some (.slice va vl vc) ∧ w2.cell? ⟨w.heap.size, 0, none⟩ = some (.int .i64 k) ∧
          Hid (∀ V2, Same w2 V2 → Calls Try.prog 127 #[.slice va vl vc, .int .i64 k, .agg #[.int .i64 zk, .int .i64 zw, .int .i64 zh, .int .i64 zi, .slice za zl zc]] V2 fun e w3 =>
            ∃ a3 c3, e = .returned (.slice a3 L c3) ∧ w3.cell? ⟨w.heap.size + 1 + 1, 4, none⟩ = some (.slice va vl vc) ∧ w3.frozen? ⟨w.heap.size + 1 + 1, 4, none⟩ = false ∧
              Hid (∀ V3, Same w3 V3 → CutLoop w S k W H i bv (cutRL pane kind size before id k [] (kids.take (j + 1))) (.slice a3 L c3) (V3.setCell ⟨w.heap.size + 1 + 1, 4, none⟩ (.slice a3 L c3)) ∧ (cutRL pane kind size before id k [] (kids.take (j + 1))).length = L))) := by
  obtain ⟨b, off, ha, hSb, hA⟩ := hat
  obtain ⟨r, hr⟩ : ∃ r, kids[j]? = some r := ⟨kids[j]'(by omega), by simp⟩
  have hmem := List.mem_of_getElem? hr
  obtain ⟨_, ⟨sa, sc, rfl⟩, ⟨s', hs', hk'⟩, e2, e3, e4, e5, e6⟩ := (hA j r hr).rep
  have hs'' : s' = .slice sa r.kids.length sc := by
    simp only [nval, Value.agg.injEq, Array.mk.injEq, List.cons.injEq, and_true, true_and] at hs'
    exact hs'.symm
  subst hs''
  have bl := hL.bel
  have cb : ∀ {p : Addr} {u : Value}, w.cell? p = some u → wr.cell? p = some u := fun h => cell_below bl h
  have hkids : kids.length ≤ 63 := by have := cntL_length kids; omega
  have hrc : r.cnt ≤ cntL kids := cnt_mem hmem
  have hnext : cutRL pane kind size before id k [] (kids.take (j + 1)) = joinedF acc k (r.cutR pane kind size before id) := by rw [take_snoc' hr, cutRL_app, hacc]
  have hvs : ∀ g, (Value.slice va vl vc).ownBlock = some g → w.heap.size + 3 ≤ g ∧ g < wr.heap.size := fun g hg => hL.own.lt hg
  have hlen : acc.length ≤ 2 * j := by
    rw [hacc]
    have := cutRL_len pane kind size before id k hk (kids.take j) [] (fun q hq => (hok q (List.mem_of_mem_take hq)).1)
    simp only [List.length_nil, Nat.zero_add, List.length_take] at this
    omega
  have b15 := blk_lt hL.box15
  refine ⟨b, off, r, sa, sc, (joinedF acc k (r.cutR pane kind size before id)).length, ha, cb e2, cb e3, cb e4, cb e5, cb e6, Lib.hid fun V hV => ?_⟩
  have hbV : Below w.heap.size w V := bl.trans (hV.2.mono bl.size)
  have hVs : V.heap.size = wr.heap.size := by rw [hV.1]
  refine (ih r S pane kind size before id sa r.kids.length sc V (Nat.le_trans (depth_mem hmem) hdep) (hok r hmem).2 (by omega) rfl (hk'.upd (fun b hb => hb) (fun b hb => hbV.block b (hS b hb))) (fun b hb => by have := hS b hb; have := hbV.size; omega) hk).mono ?_
  rintro e w2 ⟨za, zc, rfl, hzk, hb2⟩
  have hb2' : Below wr.heap.size wr w2 := hV.2.trans (hb2.mono (by omega))
  have s2 := hb2'.size
  have y15 := blk_below hL.box15 hb2'
  have y12 := blk_below hL.box12 hb2'
  have y6 := blk_below hL.box6 hb2'
  have hN2 : NOwn w2 (w.heap.size + 3) (fun b => (S b ∨ w.heap.size + 3 ≤ b) ∧ b < w2.heap.size) (.slice va vl vc) acc :=
    hL.own.upd (Upd.of_below (fun _ => False) hb2') (fun b hb _ => ⟨hb.2, fun h => h⟩) (fun b hb => ⟨hb.1, by have := hb.2; omega⟩) (fun b _ h => h)
  have hzk2 : NKS (fun b => ((S b ∨ w.heap.size + 3 ≤ b) ∧ b < w2.heap.size) ∧ (Value.slice va vl vc).ownBlock ≠ some b) w2 (.slice za (r.cutR pane kind size before id).kids.length zc) (r.cutR pane kind size before id) :=
    hzk.upd (fun b hb => ⟨⟨by
      rcases hb.1 with h | h
      · exact .inl h
      · exact .inr (by omega), hb.2⟩, fun e => by
      have h1 := hvs b e
      rcases hb.1 with h | h
      · have := hS b h; omega
      · omega⟩) (fun _ _ => rfl)
  refine ⟨_, _, _, _, za, _, zc, rfl, blk_cell y15 4, by rw [blk_cell y6 0]; exact hbv, Lib.hid fun V2 hV2 => ?_⟩
  have hV2s : V2.heap.size = w2.heap.size := by rw [hV2.1]
  have mv : ∀ {S' : Nat → Prop} {s : Value} {z : R}, NKS S' w2 s z → NKS S' V2 s z := fun h => h.upd (fun _ hb => hb) (fun b _ => by rw [hV2.1])
  have hN2V : NOwn V2 (w.heap.size + 3) (fun b => (S b ∨ w.heap.size + 3 ≤ b) ∧ b < w2.heap.size) (.slice va vl vc) acc :=
    hN2.upd (Upd.of_below (fun _ => False) hV2.2) (fun b hb _ => ⟨hb.2, fun h => h⟩) (fun b hb => hb) (fun b _ h => h)
  have hzlen : (r.cutR pane kind size before id).kids.length ≤ 200 := by
    obtain ⟨k0, W0, H0, i0, kids0⟩ := r
    have h9 := hok _ hmem
    rw [cutR_mk]
    by_cases hk1 : k0 = 1
    · rw [if_pos hk1]
      split
      · rw [(leafCut_kids kind size before id W0 H0 pane hk).2]; omega
      · simp only [R.kids]; have := cntL_length kids0; simp only [R.cnt] at hrc; omega
    · rw [if_neg hk1]
      simp only [R.kids]
      have hok0 := h9.2
      simp only [R.ok] at hok0
      rcases hok0.2 with ⟨h, _⟩ | ⟨_, _, _, hl, _⟩
      · exact absurd h hk1
      · have := cutRL_len pane kind size before id k0 hk kids0 [] (fun q hq => (okL_mem hl hq).1)
        have := cntL_length kids0
        simp only [R.cnt] at hrc
        simp only [List.length_nil] at *
        omega
  refine (joined_any (w.heap.size + 3) (fun b => (S b ∨ w.heap.size + 3 ≤ b) ∧ b < w2.heap.size) (.slice va vl vc) acc k (r.cutR pane kind size before id) za _ zc V2 rfl (Lib.hid hN2V) (Lib.hid (mv hzk2)) (Lib.hid fun b hb => by have := hb.2; omega) (by omega) (by omega) (fun e => by
    rcases cutR_kind pane kind size before id hk r with h3 | h3
    · exact absurd (h3 ▸ e) (hok r hmem).1
    · omega)).mono ?_
  rintro e w3 ⟨v', rfl, hN3, hu3, hg3⟩
  obtain ⟨a3, c3, rfl⟩ := hN3.slice
  have hu23 : Upd (fun b => (Value.slice va vl vc).ownBlock = some b) w2 w3 := ((Upd.of_below _ hV2.2).then_ hu3 (fun _ _ e => e))
  have s3 := hu23.size
  have far : ∀ {q : Nat} {o : Obj}, w2.heap[q]? = some o → q < w.heap.size + 3 → w3.heap[q]? = some o := fun h hq => blk_upd h hu23 (fun e => by have := (hvs _ e).1; omega)
  have x15 := far y15 (by omega)
  have x12 := far y12 (by omega)
  have x6 := far y6 (by omega)
  refine ⟨a3, c3, rfl, blk_cell x15 4, blk_free x15 4, Lib.hid fun V3 hV3 => ⟨?_, by rw [hnext]⟩⟩
  rw [hnext]
  have hV3s : V3.heap.size = w3.heap.size := by rw [hV3.1]
  have bw3 : Below w.heap.size w V3 := by
    refine (bl.trans ((hb2'.mono bl.size).trans (hu23.below _ (by have := bl.size; omega) (fun q _ e => by have := (hvs q e).1; omega)))).trans (hV3.2.mono ?_)
    have := bl.size; omega
  have hg3' : ∀ g, (Value.slice a3 (joinedF acc k (r.cutR pane kind size before id)).length c3).ownBlock = some g → w.heap.size + 3 ≤ g := fun g hg => (hN3.lt hg).1
  refine ⟨?_, bw3.setCell (by simp only []; omega) _, ?_, ?_, ?_⟩
  · have hN3V : NOwn V3 (w.heap.size + 3) (fun b => (S b ∨ w.heap.size + 3 ≤ b) ∧ b < w2.heap.size) (.slice a3 (joinedF acc k (r.cutR pane kind size before id)).length c3) (joinedF acc k (r.cutR pane kind size before id)) :=
      hN3.upd (Upd.of_below (fun _ => False) hV3.2) (fun b hb _ => ⟨by have := hb.2; omega, fun h => h⟩) (fun b hb => hb) (fun b _ h => h)
    exact hN3V.upd (U := fun b => b = w.heap.size + 1 + 1) ((Upd.refl _ V3).setCell _ _ (fun _ => rfl)) (fun b hb _ => ⟨by have := hb.2; omega, fun e => by
      rcases hb.1 with h | h
      · have := hS b h; omega
      · omega⟩) (fun b hb => ⟨hb.1, by rw [World.size_setCell]; have := hb.2; omega⟩) (fun b hb e => by have := hg3' b hb; omega)
  · exact blk_far (by rw [hV3.1]; exact x6) _ _ (by simp only []; omega)
  · exact blk_far (by rw [hV3.1]; exact x12) _ _ (by simp only []; omega)
  · have x15' : V3.heap[w.heap.size + 1 + 1]? = some (.cells #[.int .i64 k, .int .i64 W, .int .i64 H, .int .i64 i, .slice va vl vc] 88 (0, 0)) := by rw [hV3.1]; exact x15
    rw [blk_set x15' 4]; simp

theorem cut_end {w wr w9 : World} {S : Nat → Prop} {k W H i : Int} {bv : Array Value} {acc : List R} {va : Option Addr} {vl vc : Nat} (hS : ∀ b, S b → b < w.heap.size) (hL : CutLoop w S k W H i bv acc (.slice va vl vc) wr) (hl : acc.length = vl) (hu : Upd (fun b => b = w.heap.size + 1) wr w9) :
    NodePost w S (.mk k W H i acc) (.returned (.agg #[.int .i64 k, .int .i64 W, .int .i64 H, .int .i64 i, .slice va vl vc])) w9 := by
  subst hl
  have s9 := hu.size
  have b15 := blk_lt hL.box15
  have hN9 : NOwn w9 (w.heap.size + 3) (fun b => (S b ∨ w.heap.size + 3 ≤ b) ∧ b < wr.heap.size) (.slice va acc.length vc) acc := hL.own.upd hu (fun b hb _ => ⟨hb.2, fun e => by
    rcases hb.1 with h | h
    · have := hS b h; omega
    · omega⟩) (fun b hb => hb) (fun b hb => by have := (hL.own.lt hb).1; omega)
  refine ⟨va, vc, rfl, hN9.nks _ _ _ _ (fun b hb => ⟨?_, by have := hb.2; omega⟩) (fun b hb => ⟨.inr (by have := (hL.own.lt hb).1; omega), by have := (hL.own.lt hb).2; omega⟩), hL.bel.trans (hu.below _ hL.bel.size (fun q _ e => by omega))⟩
  rcases hb.1 with h | h
  · exact .inl h
  · exact .inr (by omega)

/-- Behind the region: what holds, by itself. -/
theorem cut_next {w w3 : World} {S : Nat → Prop} {k W H i pane kind size : Int} {before : Bool} {id : Int} {kids acc : List R} {j m L c3 : Nat} {a3 : Option Addr} {bv : Array Value} {v : Value} {wr : World} {G : Prop} (_ : Hid (CutLoop w S k W H i bv acc v wr))
    (hE : Hid (∀ V3, Same w3 V3 → CutLoop w S k W H i bv (cutRL pane kind size before id k [] (kids.take (j + 1))) (.slice a3 L c3) (V3.setCell ⟨w.heap.size + 1 + 1, 4, none⟩ (.slice a3 L c3)) ∧ (cutRL pane kind size before id k [] (kids.take (j + 1))).length = L)) (_ : j < m)
    (h : Hid (CutLoop w S k W H i bv (cutRL pane kind size before id k [] (kids.take (j + 1))) (.slice a3 L c3) (w3.setCell ⟨w.heap.size + 1 + 1, 4, none⟩ (.slice a3 L c3)) ∧ (cutRL pane kind size before id k [] (kids.take (j + 1))).length = L) → G) : G := h (Lib.hid (hE.out w3 (Same.refl _)))

set_option maxRecDepth 100000 in
set_option maxHeartbeats 2000000 in
theorem cut_split (n : Nat) (ih : Hid (RCutSaid n)) (S : Nat → Prop) (k W H i pane kind size : Int) (before : Bool) (id : Int) (kids : List R) (a : Option Addr) (m c : Nat) (w : World) (hk1 : ¬ k = 1) (hdep : Hid (depthL kids ≤ n)) (hm : Hid (m = kids.length)) (hm0 : 0 < m) (hm1 : m ≤ 64) (hmc : m ≤ c) (hcm : c ≤ maxLen) (hS : Hid (∀ b, S b → b < w.heap.size)) (hk : Hid (kind = 2 ∨ kind = 3))
    (hok : Hid (∀ r ∈ kids, r.kind ≠ k ∧ r.ok)) (hcnt : Hid (cntL kids + 1 ≤ 64)) (hat : Hid (∃ b off, a = some ⟨b, off, none⟩ ∧ S b ∧ ∀ j r, kids[j]? = some r → NAtS S w b (off + j * 5) r)) :
    Calls Try.prog 84 #[.agg #[.int .i64 k, .int .i64 W, .int .i64 H, .int .i64 i, .slice a m c], .int .i64 pane, .int .i64 kind, .int .i64 size, .bool before, .int .i64 id] w fun e w' => NodePost w S (.mk k W H i (cutRL pane kind size before id k [] kids)) e w' := by
  have hk2 : (k == 1) = false := by simpa using hk1
  go_enter Try.func84, Try.ntmps84
  go_wp2_with fail
  go_loopw [16] (fun iv wr => ∃ (j vl vc : Nat) (va : Option Addr) (acc : List R), j ≤ m ∧ iv = .int .i64 j ∧ Hid (acc = cutRL pane kind size before id k [] (kids.take j)) ∧ Hid (acc.length = vl) ∧ CutLoop w S k W H i #[.int .i64 k, .int .i64 W, .int .i64 H, .int .i64 i, .slice a m c] acc (.slice va vl vc) wr) (fun iv _ => m - (intOf iv).toNat)
  case atStart =>
    have e1 := heap_alloc_new w (.cells #[.int .i64 k, .int .i64 W, .int .i64 H, .int .i64 i, .slice a m c] 88)
    have e2 := heap_alloc_new (w.alloc (.cells #[.int .i64 k, .int .i64 W, .int .i64 H, .int .i64 i, .slice a m c] 88)) (.cells #[.int .i64 0, .int .i64 0, .int .i64 0, .int .i64 0, .slice none 0 0] 88)
    have e3 := heap_alloc_new ((w.alloc (.cells #[.int .i64 k, .int .i64 W, .int .i64 H, .int .i64 i, .slice a m c] 88)).alloc (.cells #[.int .i64 0, .int .i64 0, .int .i64 0, .int .i64 0, .slice none 0 0] 88)) (.cells #[.int .i64 k, .int .i64 W, .int .i64 H, .int .i64 i, .slice none 0 0] 88)
    simp only [World.size_alloc] at e2 e3
    exact ⟨0, 0, 0, none, [], Nat.zero_le _, rfl, by show _ = _; rw [List.take_zero, cutRL_nil], by show _ = _; rfl, NOwn.nil _ _ _, (((Below.refl _ _).alloc (Nat.le_refl _) _).alloc (by simp) _).alloc (by simp; omega) _, blk_alloc (blk_alloc e1 _) _, blk_alloc e2 _, e3⟩
  case round =>
    obtain ⟨j, vl, vc, va, acc, hj, rfl, hacc, hvl, hL⟩ := hrel
    have c4 : wr.cell? ⟨w.heap.size, 4, none⟩ = some (.slice a m c) := blk_cell hL.box6 4
    by_cases hlt : j < m
    · obtain ⟨b, off, r, sa, sc, L, rfl, k0, k1, k2, k3, k4, HC⟩ := cut_round ih.out rfl hdep.out hm.out hS.out hk.out hok.out hcnt.out hacc.out hvl.out hat.out hL hlt
      have d4 : wr.cell? ⟨w.heap.size + 1 + 1, 4, none⟩ = some (.slice va vl vc) := blk_cell hL.box15 4
      have d0 : wr.cell? ⟨w.heap.size, 0, none⟩ = some (.int .i64 k) := blk_cell hL.box6 0
      have HL := Lib.hid hL
      clear hL hat
      go_wp2_with fail
      go_region_with (first
        | (go_at_call 84; with_reducible refine (HC.out _ ?_).mono ?_; (first | with_reducible exact Same.refl _ | with_reducible exact (Same.refl _).drew | with_reducible exact (Same.refl _).drewN _ | with_reducible exact ((Same.refl _).drew).drew); rintro e w2 ⟨zk, zw, zh, zi, za, zl, zc, rfl, y4, y0, HC2⟩)
        | (go_at_call 127; with_reducible refine (HC2.out _ ?_).mono ?_; (first | with_reducible exact Same.refl _ | with_reducible exact (Same.refl _).drew | with_reducible exact (Same.refl _).drewN _ | with_reducible exact ((Same.refl _).drew).drew); rintro e w3 ⟨a3, c3, rfl, u4, f4, HE⟩))
      all_goals
        (try simp only [Exit.inBlock, Exit.then])
        refine cut_next HL HE hlt ?_
        intro hE
        clear y4 y0 u4 f4 HC HC2 k0 k1 k2 k3 k4 d4 d0 c4 HE
        go_wp2_with fail
        exact ⟨⟨j + 1, L, c3, a3, _, hlt, num_succ j, rfl, Lib.hid hE.out.2, hE.out.1⟩, meas_lt hlt⟩
    · obtain rfl : j = m := by omega
      have s0 : wr.cell? ⟨w.heap.size + 1 + 1, 0, none⟩ = some (.int .i64 k) := blk_cell hL.box15 0
      have s1 : wr.cell? ⟨w.heap.size + 1 + 1, 1, none⟩ = some (.int .i64 W) := blk_cell hL.box15 1
      have s2 : wr.cell? ⟨w.heap.size + 1 + 1, 2, none⟩ = some (.int .i64 H) := blk_cell hL.box15 2
      have s3 : wr.cell? ⟨w.heap.size + 1 + 1, 3, none⟩ = some (.int .i64 i) := blk_cell hL.box15 3
      have s4 : wr.cell? ⟨w.heap.size + 1 + 1, 4, none⟩ = some (.slice va vl vc) := blk_cell hL.box15 4
      have r0 : wr.cell? ⟨w.heap.size + 1, 0, none⟩ = some (.int .i64 0) := blk_cell hL.box12 0
      have r1 : wr.cell? ⟨w.heap.size + 1, 1, none⟩ = some (.int .i64 0) := blk_cell hL.box12 1
      have r2 : wr.cell? ⟨w.heap.size + 1, 2, none⟩ = some (.int .i64 0) := blk_cell hL.box12 2
      have r3 : wr.cell? ⟨w.heap.size + 1, 3, none⟩ = some (.int .i64 0) := blk_cell hL.box12 3
      have r4 : wr.cell? ⟨w.heap.size + 1, 4, none⟩ = some (.slice none 0 0) := blk_cell hL.box12 4
      have q0 := blk_free hL.box12 0
      have q1 := blk_free hL.box12 1
      have q2 := blk_free hL.box12 2
      have q3 := blk_free hL.box12 3
      have q4 := blk_free hL.box12 4
      have HL := Lib.hid hL
      clear hL
      go_wp2_with fail
      (try simp only [Exit.inBlock, Exit.then])
      have hs5 := set5 (w := wr) (b := w.heap.size + 1) (t := 88) HL.out.box12 rfl (.int .i64 k) (.int .i64 W) (.int .i64 H) (.int .i64 i) (.slice va vl vc)
      refine bodyPost_ret (res_node1 rfl _ _ (w.heap.size + 1) _ rfl hs5.1 rfl) rfl ?_
      have e := hacc.out
      rw [List.take_of_length_le (by have := hm.out; omega)] at e
      rw [← e]
      exact cut_end hS.out HL.out hvl.out hs5.2

theorem rcut_any (n : Nat) : RCutSaid n := by
  induction n with
  | zero =>
    intro r S pane kind size before id a m c w hd
    cases r
    simp [R.depth] at hd
  | succ n ih =>
    intro r S pane kind size before id a m c w hdep hok hcnt hm hk hS hkind
    cases r with
    | mk k W H i kids =>
      simp only [R.kids] at hm
      subst hm
      simp only [R.depth] at hdep
      simp only [R.cnt] at hcnt
      simp only [NKS] at hk
      obtain ⟨a', cap, e, h1, h2, h3⟩ := hk
      simp only [Value.slice.injEq] at e
      obtain ⟨rfl, _, rfl⟩ := e
      have hlk := cntL_length kids
      simp only [R.ok] at hok
      rw [cutR_mk]
      rcases hok.2 with ⟨rfl, rfl, _⟩ | ⟨hk23, rfl, hk2, hl, _⟩
      · rw [if_pos rfl]
        by_cases hp : i = pane
        · subst hp; rw [if_pos rfl]
          exact cut_leaf S W H i kind size a c before id w hkind ⟨hok.1.1, hok.1.2.1⟩ ⟨hok.1.2.2.1, hok.1.2.2.2⟩
        · rw [if_neg hp]
          exact cut_skip S W H i pane kind size a c before id w h2 hp
      · rw [if_neg (by omega)]
        exact cut_split n ih S k W H 0 pane kind size before id kids a kids.length c w (by omega) (Nat.le_of_succ_le_succ hdep) rfl (by omega) (by omega) h1 h2 hS hkind (Lib.hid fun r hr => ⟨(okL_mem hl hr).1, (okL_mem hl hr).2.2⟩) hcnt (Lib.hid (by
          obtain ⟨b, off, e1, e2, e3⟩ := h3 (by rintro rfl; simp at hk2)
          refine ⟨b, off, e1, e2, fun j r hj => ?_⟩
          have := (NLS_iff kids 0).1 e3 j r hj
          rwa [Nat.zero_add] at this))

end Go.Proofs.Ytpehceccnjdfeaa
