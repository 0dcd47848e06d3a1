/- lay, write: a tree is laid down as a list. -/
import Derived.Test.YtpehceccnjdfeaaA2
namespace Go.Proofs.Ytpehceccnjdfeaa
open Go.RowKit

/-- What lay leaves. -/
def LayPost (w : World) (a : A) (r : R) (x y : Int) (ob B : Nat) (v0 : Value) (l : List Cl) (w' : World) : Prop :=
  ∃ v', w'.heap[ob]? = some (.cells #[v'] 22 (0, 0)) ∧ Owned w' B v' l ∧ Rep w' a r ∧ Pos w' a r x y ∧ Upd (fun k => k = ob ∨ some k = v0.ownBlock ∨ k ∈ a.blks) w w' ∧ (∀ g, v'.ownBlock = some g → some g = v0.ownBlock ∨ w.heap.size ≤ g)

/-- One cell more behind the list that 'out' points to. -/
theorem out_append {w2 w3 : World} {ob B gg cap : Nat} {v0 : Value} {l0 : List Cl} {c : Cl} {X : Obj} (hob : w2.heap[ob]? = some (.cells #[v0] 22 (0, 0))) (hne : v0.ownBlock ≠ some ob)
    (hgrow : (w2.alloc X).drew.drew.grownBy w3 v0.ownBlock) (hown : w3.ownsRow B 53 7 (.slice (some ⟨gg, 0, none⟩) (l0.length + 1) cap) (l0.length + 1) (cvals l0 ++ c.vals)) :
    (w3.setCell ⟨ob, 0, none⟩ (.slice (some ⟨gg, 0, none⟩) (l0.length + 1) cap)).heap[ob]? = some (.cells #[.slice (some ⟨gg, 0, none⟩) (l0.length + 1) cap] 22 (0, 0)) ∧
    Owned (w3.setCell ⟨ob, 0, none⟩ (.slice (some ⟨gg, 0, none⟩) (l0.length + 1) cap)) B (.slice (some ⟨gg, 0, none⟩) (l0.length + 1) cap) (l0 ++ [c]) ∧
    Upd (fun k => k = ob ∨ some k = v0.ownBlock) w2 (w3.setCell ⟨ob, 0, none⟩ (.slice (some ⟨gg, 0, none⟩) (l0.length + 1) cap)) := by
  have h1 : (w2.alloc X).drew.drew.heap[ob]? = some (.cells #[v0] 22 (0, 0)) := blk_alloc hob X
  have h2 : w3.heap[ob]? = some (.cells #[v0] 22 (0, 0)) := (hgrow.block ob (blk_lt h1) (Ne.symm hne)).trans h1
  refine ⟨one_setCell h2, ?_, ?_⟩
  · have : Owned w3 B (.slice (some ⟨gg, 0, none⟩) (l0.length + 1) cap) (l0 ++ [c]) := by
      unfold Owned
      rw [cvals_append, cvals_one, List.length_append]
      exact hown
    exact this.setCell h2 (by decide) 0 _
  · exact ((((Upd.refl _ w2).alloc X).drew).drew.grown hgrow fun k _ e => .inr e.symm).setCell _ _ fun _ => .inl rfl

set_option maxRecDepth 100000 in
theorem lay_leaf (b ob B : Nat) (v0 : Value) (l0 : List Cl) (W H id d x y : Int) (w : World) (hr : Rep w (.leaf b) (.mk 1 W H id [])) (hob : w.heap[ob]? = some (.cells #[v0] 22 (0, 0))) (hown : Owned w B v0 l0) (hB : B ≤ w.heap.size)
   (hl : l0.length ≤ 1000000) :
    Calls Try.prog 123 #[.iface 95 (.pointer (some ⟨b, 0, none⟩)), .int .i64 d, .int .i64 x, .int .i64 y, .pointer (some ⟨ob, 0, none⟩)] w fun e w' => e = .returned (.tuple #[]) ∧ LayPost w (.leaf b) (.mk 1 W H id []) x y ob B v0 (l0 ++ (R.mk 1 W H id []).lay d x y) w' := by
  simp only [Rep] at hr
  obtain ⟨_, _, x0, y0, hb⟩ := hr
  have hne : b ≠ ob := by rintro rfl; rw [hb] at hob; simp at hob
  have bl := blk_lt hb
  have ol := blk_lt hob
  have hw := where_inv (.leaf b) w
  have HW := Lib.hid hw; clear hw
  have c0 : w.cell? ⟨b, 0, none⟩ = some (.int .i64 x0) := blk_cell hb 0
  have c1 : w.cell? ⟨b, 1, none⟩ = some (.int .i64 y0) := blk_cell hb 1
  have c2 : w.cell? ⟨b, 2, none⟩ = some (.int .i64 W) := blk_cell hb 2
  have c3 : w.cell? ⟨b, 3, none⟩ = some (.int .i64 H) := blk_cell hb 3
  have c4 : w.cell? ⟨b, 4, none⟩ = some (.int .i64 id) := blk_cell hb 4
  have f0 : w.frozen? ⟨b, 0, none⟩ = false := blk_free hb 0
  have f1 : w.frozen? ⟨b, 1, none⟩ = false := blk_free hb 1
  have Hb := Lib.hid hb; clear hb
  have Hob := Lib.hid hob; clear hob
  have Hown := Lib.hid hown; clear hown
  go_enter Try.func123, Try.ntmps123
  go_wp2_with (first | ((with_reducible refine wpList_same0 rfl (.tmp 16) "mullion/layout.where" #[] rfl (.pointer (some ⟨b, 0, none⟩)) ?_ ?_); exact HW.out))
  have hb1 : ((w.setCell ⟨b, 0, none⟩ (.int .i64 x)).setCell ⟨b, 1, none⟩ (.int .i64 y)).heap[b]? = some (.cells #[.int .i64 x, .int .i64 y, .int .i64 W, .int .i64 H, .int .i64 id] 100 (0, 0)) := by
    rw [blk_set (blk_set Hb.out 0 _) 1]; simp
  have hob1 := blk_far (blk_far Hob.out ⟨b, 0, none⟩ (.int .i64 x) hne.symm) ⟨b, 1, none⟩ (.int .i64 y) hne.symm
  have hu1 : Upd (fun k => k = ob ∨ some k = v0.ownBlock ∨ k ∈ (A.leaf b).blks) w ((w.setCell ⟨b, 0, none⟩ (.int .i64 x)).setCell ⟨b, 1, none⟩ (.int .i64 y)) :=
    ((Upd.refl _ _).setCell _ _ (by simp [A.blks])).setCell _ _ (by simp [A.blks])
  have hown1 : Owned ((w.setCell ⟨b, 0, none⟩ (.int .i64 x)).setCell ⟨b, 1, none⟩ (.int .i64 y)) B v0 l0 := (Hown.out.setCell Hb.out (by decide) 0 _).setCell (blk_set Hb.out 0 _) (by decide) 1 _
  generalize ((w.setCell ⟨b, 0, none⟩ (.int .i64 x)).setCell ⟨b, 1, none⟩ (.int .i64 y)) = w1 at *
  clear c0 c1 c2 c3 c4 f0 f1
  have c2 : w1.cell? ⟨b, 2, none⟩ = some (.int .i64 W) := blk_cell hb1 2
  have c3 : w1.cell? ⟨b, 3, none⟩ = some (.int .i64 H) := blk_cell hb1 3
  have bl1 := blk_lt hb1
  have Hb1 := Lib.hid hb1; clear hb1
  have Hob1 := Lib.hid hob1; clear hob1
  have Hu1 := Lib.hid hu1; clear hu1
  have Hown1 := Lib.hid hown1; clear hown1
  go_region_held3 (fun w' => w'.cell? ⟨b, 2, none⟩ = some (.int .i64 W) ∧ w'.cell? ⟨b, 3, none⟩ = some (.int .i64 H)) (first | go_keep) (first | fail)
  have t1 := ta_leaf_split
  have t2 := ta_leaf
  have c4 : w1.cell? ⟨b, 4, none⟩ = some (.int .i64 id) := blk_cell Hb1.out 4
  go_wp2_with fail
  have hcb := heap_alloc_new w1 (.cells #[.int .i64 d, .int .i64 1, .int .i64 x, .int .i64 y, .int .i64 W, .int .i64 H, .int .i64 id] 53)
  have hb2 := blk_alloc Hb1.out (.cells #[.int .i64 d, .int .i64 1, .int .i64 x, .int .i64 y, .int .i64 W, .int .i64 H, .int .i64 id] 53)
  have hob2 := blk_alloc Hob1.out (.cells #[.int .i64 d, .int .i64 1, .int .i64 x, .int .i64 y, .int .i64 W, .int .i64 H, .int .i64 id] 53)
  have hown2 := Hown1.out.alloc (.cells #[.int .i64 d, .int .i64 1, .int .i64 x, .int .i64 y, .int .i64 W, .int .i64 H, .int .i64 id] 53)
  have hncb : v0.ownBlock ≠ some w1.heap.size := fun e => by have := Hown1.out.lt e; omega
  have hu2 := Hu1.out.alloc (.cells #[.int .i64 d, .int .i64 1, .int .i64 x, .int .i64 y, .int .i64 W, .int .i64 H, .int .i64 id] 53)
  generalize w1.alloc (.cells #[.int .i64 d, .int .i64 1, .int .i64 x, .int .i64 y, .int .i64 W, .int .i64 H, .int .i64 id] 53) = w2 at *
  generalize w1.heap.size = cb at *
  clear c2 c3 c4 t1 t2 Hb1 Hob1 Hown1 Hu1 Hb Hob Hown HW bl1
  have cc : cb < w2.heap.size := blk_lt hcb
  have d0 : w2.cell? ⟨cb, 0, none⟩ = some (.int .i64 d) := blk_cell hcb 0
  have d1 : w2.cell? ⟨cb, 1, none⟩ = some (.int .i64 1) := blk_cell hcb 1
  have d2 : w2.cell? ⟨cb, 2, none⟩ = some (.int .i64 x) := blk_cell hcb 2
  have d3 : w2.cell? ⟨cb, 3, none⟩ = some (.int .i64 y) := blk_cell hcb 3
  have d4 : w2.cell? ⟨cb, 4, none⟩ = some (.int .i64 W) := blk_cell hcb 4
  have d5 : w2.cell? ⟨cb, 5, none⟩ = some (.int .i64 H) := blk_cell hcb 5
  have d6 : w2.cell? ⟨cb, 6, none⟩ = some (.int .i64 id) := blk_cell hcb 6
  have o0 : w2.cell? ⟨ob, 0, none⟩ = some v0 := blk_cell hob2 0
  have fo : w2.frozen? ⟨ob, 0, none⟩ = false := blk_free hob2 0
  have ol2 := blk_lt hob2
  have hne2 : v0.ownBlock ≠ some ob := ownsRow_ne hown2 hob2 (by decide)
  have hB2 : B ≤ w2.heap.size := Nat.le_trans hB hu2.size
  have Hcb := Lib.hid hcb; clear hcb
  have Hb2 := Lib.hid hb2; clear hb2
  have Hob2 := Lib.hid hob2; clear hob2
  have Hown2 := Lib.hid hown2; clear hown2
  have Hu2 := Lib.hid hu2; clear hu2
  have Hne2 := Lib.hid hne2; clear hne2
  have Hncb := Lib.hid hncb; clear hncb
  obtain ⟨i0, hi0, hz0, hz1, hz2⟩ := info_parts info53
  have Hi := Lib.hid hi0; have Hz0 := Lib.hid hz0; have Hz1 := Lib.hid hz1; have Hz2 := Lib.hid hz2
  clear hi0 hz0 hz1 hz2
  have nw1 := World.new_ne w2 ⟨cb, 0, none⟩ d0
  go_region_law
    ((refine step_append_lies _ (by rfl) _ _ _ (by rfl) B 53 i0 _ 7 56 Try.underlying22 Hi.out Hz0.out Hz1.out Hz2.out rfl (by omega) v0 l0.length (cvals l0) (by rfl) ((Hown2.out.alloc _).drew)
        ⟨w2.heap.size, 0, none⟩ 1 1 [.int .i64 d, .int .i64 1, .int .i64 x, .int .i64 y, .int .i64 W, .int .i64 H, .int .i64 id] (by rfl) (by rfl) (World.news_of_block (cs := #[.int .i64 d, .int .i64 1, .int .i64 x, .int .i64 y, .int .i64 W, .int .i64 H, .int .i64 id]) (t := 53) (fr := (0, 0)) (heap_alloc_new w2 _)) (by simp [Value.oneCell'])
        (by omega) (by unfold maxLen; omega) (by omega) (by simp; omega) (w2.heap.size + 1) (by simp) ?_); intro gg cap w3 hown3 hgrow3 hat3 hlt3; have e1 : w3.cell? ⟨ob, 0, none⟩ = some v0 := (by rw [hgrow3.cell_far _ (by simp; omega) (Ne.symm Hne2.out)]; exact (World.cell?_alloc_lt _ _ _ ol2).trans o0); have e2 : w3.frozen? ⟨ob, 0, none⟩ = false := (by rw [hgrow3.frozen_far _ (by simp; omega) (Ne.symm Hne2.out)]; simpa [frozen?_alloc_cells] using fo))
  all_goals
    go_wp2_with fail
    refine bodyPost_ret (results_none Try.results123 _ _ _) rfl ⟨rfl, ?_⟩
    obtain ⟨q1, q2, q3⟩ := out_append (c := ⟨d, 1, x, y, W, H, id⟩) Hob2.out Hne2.out hgrow3 hown3
    have hb3 := blk_upd Hb2.out q3 (by rintro (e | e); exact hne e; exact ownsRow_ne Hown2.out Hb2.out (by decide) e.symm)
    refine ⟨_, q1, by simpa [R.lay, layL] using q2, ⟨rfl, rfl, _, _, hb3⟩, ⟨blk_cell hb3 0, blk_cell hb3 1⟩, Hu2.out.then_ q3 ?_, ?_⟩
    · rintro k _ (e | e)
      · exact .inl e
      · exact .inr (.inl e)
    · intro g hg
      simp only [Value.ownBlock, Option.some.injEq] at hg
      subst hg
      rcases hat3 with e | e
      · exact .inl e.symm
      · have := Hu2.out.size
        exact .inr (by omega)

/-- What holds behind j children. -/
def LayLoop (w : World) (b a off cap : Nat) (ks : List A) (k W H : Int) (kids : List R) (d x y : Int) (ob B : Nat) (v0 : Value) (l0 : List Cl) (j : Nat) (wr : World) : Prop :=
  ∃ v', wr.heap[ob]? = some (.cells #[v'] 22 (0, 0)) ∧ Owned wr B v' (l0 ++ ⟨d, k, x, y, W, H, 0⟩ :: layL k (d + 1) x y (kids.take j)) ∧
    wr.heap[b]? = some (.cells #[.int .i64 x, .int .i64 y, .int .i64 W, .int .i64 H, .int .i64 k, .slice (some ⟨a, off, none⟩) ks.length cap] 105 (0, 0)) ∧
    Row wr a off cap (ks.map A.val) ∧ Reps wr ks kids ∧ PosL wr k (ks.take j) (kids.take j) x y ∧
    Upd (fun i => i = ob ∨ some i = v0.ownBlock ∨ i ∈ (A.split b a off cap ks).blks) w wr ∧ (∀ g, v'.ownBlock = some g → some g = v0.ownBlock ∨ w.heap.size ≤ g)

theorem LayLoop.step {w : World} {b a off cap : Nat} {ks : List A} {k W H : Int} {kids : List R} {d x y : Int} {ob B : Nat} {v0 : Value} {l0 : List Cl} {j : Nat} {wr w2 : World} {v' : Value} {kd : A} {r : R}
    (hn : (A.split b a off cap ks).blks.Nodup) (hj : ks[j]? = some kd) (hr : kids[j]? = some r)
    (h1 : wr.heap[ob]? = some (.cells #[v'] 22 (0, 0))) (h2 : Owned wr B v' (l0 ++ ⟨d, k, x, y, W, H, 0⟩ :: layL k (d + 1) x y (kids.take j)))
    (h3 : wr.heap[b]? = some (.cells #[.int .i64 x, .int .i64 y, .int .i64 W, .int .i64 H, .int .i64 k, .slice (some ⟨a, off, none⟩) ks.length cap] 105 (0, 0)))
    (h4 : Row wr a off cap (ks.map A.val)) (h5 : Reps wr ks kids) (h6 : PosL wr k (ks.take j) (kids.take j) x y)
    (h7 : Upd (fun i => i = ob ∨ some i = v0.ownBlock ∨ i ∈ (A.split b a off cap ks).blks) w wr) (h8 : ∀ g, v'.ownBlock = some g → some g = v0.ownBlock ∨ w.heap.size ≤ g)
    (hp : LayPost wr kd r (nextX k x (kids.take j)) (nextY k y (kids.take j)) ob B v' ((l0 ++ ⟨d, k, x, y, W, H, 0⟩ :: layL k (d + 1) x y (kids.take j)) ++ r.lay (d + 1) (nextX k x (kids.take j)) (nextY k y (kids.take j))) w2) :
    LayLoop w b a off cap ks k W H kids d x y ob B v0 l0 (j + 1) w2 := by
  obtain ⟨v2, p1, p2, p3, p4, p5, p6⟩ := hp
  have hlen := ((Reps_iff wr ks kids).1 h5).1
  simp only [A.blks, List.nodup_cons, List.mem_cons, not_or] at hn
  obtain ⟨⟨n1, n2⟩, n3, n4⟩ := hn
  have hkd : ∀ i ∈ kd.blks, i ∈ blksL ks := blksL_at hj
  have tk : ∀ i ∈ blksL ks, Tyd wr i := Reps.tyd ks kids h5
  have far : ∀ i, Tyd wr i → i ∉ kd.blks → ¬ (i = ob ∨ some i = v'.ownBlock ∨ i ∈ kd.blks) := by
    rintro i ti hni (rfl | e | e)
    · exact ti.ne h1 (by decide) (by decide) (by decide) rfl
    · obtain ⟨cs, t, hc, ht⟩ := ti
      exact ownsRow_ne h2 hc (by rcases ht with rfl | rfl | rfl <;> decide) e.symm
    · exact hni e
  have tb : Tyd wr b := ⟨_, _, h3, .inr (.inl rfl)⟩
  have ta : Tyd wr a := by obtain ⟨cs, hc, _⟩ := h4; exact ⟨_, _, hc, .inr (.inr rfl)⟩
  have hother : ∀ i b', ks[i]? = some b' → i ≠ j → ∀ q ∈ b'.blks, ¬ (q = ob ∨ some q = v'.ownBlock ∨ q ∈ kd.blks) := fun i b' hi hne q hq =>
    far q (tk q (blksL_at hi q hq)) (blks_apart n4 hi hj hne q hq)
  refine ⟨v2, p1, ?_, blk_upd h3 p5 (far b tb fun e => n2 (hkd b e)), h4.congr (p5.block a ta.lt (far a ta fun e => n3 (hkd a e))), ?_, ?_, h7.then_ p5 ?_, ?_⟩
  · rw [take_snoc' hr, layL_append]
    simpa [layL] using p2
  · have := h5.set p5 hj p3 hother
    rwa [List.set_getElem?_self' hr] at this
  · rw [take_snoc' hj, take_snoc' hr, PosL_snoc _ _ _ _ _ _ _ _ (by simp; omega)]
    refine ⟨PosL.congr k _ _ x y h6 fun i hi => ?_, p4⟩
    obtain ⟨b', hb', hib⟩ := blksL_mem.1 hi
    obtain ⟨i', hi'⟩ := List.mem_iff_getElem?.1 hb'
    have hlt : i' < j := by
      have := (List.getElem?_eq_some_iff.1 hi').1
      simp at this; omega
    rw [List.getElem?_take, if_pos hlt] at hi'
    exact p5.block i (tk i (blksL_at hi' i hib)).lt (hother i' b' hi' (by omega) i hib)
  · rintro i hi (e | e | e)
    · exact .inl e
    · exact .inr (.inl (by rcases h8 i e.symm with e' | e'; exact e'; omega))
    · exact .inr (.inr (by simp only [A.blks, List.mem_cons]; exact .inr (.inr (hkd i e))))
  · intro g hg
    rcases p6 g hg with e | e
    · exact h8 g e.symm
    · exact .inr (Nat.le_trans h7.size e)

end Go.Proofs.Ytpehceccnjdfeaa
