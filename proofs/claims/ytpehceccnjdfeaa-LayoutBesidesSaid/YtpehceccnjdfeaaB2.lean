/- lay: a cell that is cut; write. -/
import Derived.Test.YtpehceccnjdfeaaB1
namespace Go.Proofs.Ytpehceccnjdfeaa
open Go.RowKit

/-- lay's contract for trees of that depth. -/
def LaySaid (n : Nat) : Prop := ∀ (a : A) (r : R) (d x y : Int) (ob B : Nat) (v0 : Value) (l0 : List Cl) (w : World), r.depth ≤ n → Rep w a r → a.blks.Nodup →
  w.heap[ob]? = some (.cells #[v0] 22 (0, 0)) → Owned w B v0 l0 → B ≤ w.heap.size → l0.length + r.cnt ≤ 100000 → 0 ≤ d → d + r.cnt ≤ 100000 → 0 ≤ x → x + 1001 * r.cnt ≤ 1000000 → 0 ≤ y → y + 1001 * r.cnt ≤ 1000000 → r.Bd 0 1000 →
  Calls Try.prog 123 #[a.val, .int .i64 d, .int .i64 x, .int .i64 y, .pointer (some ⟨ob, 0, none⟩)] w fun e w' => e = .returned (.tuple #[]) ∧ LayPost w a r x y ob B v0 (l0 ++ r.lay d x y) w'

theorem lay_start {w w2 w4 : World} {b a off cap m : Nat} {ks : List A} {ob B : Nat} {v0 v' : Value} {l0 : List Cl} {k W H d x y : Int} {kids : List R}
    (hr : Rep w (.split b a off cap ks) (.mk k W H 0 kids)) (hn : (A.split b a off cap ks).blks.Nodup) (hm : m = ks.length) (hrow : Row w a off cap (ks.map A.val)) (hks : Reps w ks kids)
    (hb2 : w2.heap[b]? = some (.cells #[.int .i64 x, .int .i64 y, .int .i64 W, .int .i64 H, .int .i64 k, .slice (some ⟨a, off, none⟩) m cap] 105 (0, 0))) (hne : b ≠ ob)
    (q1 : w4.heap[ob]? = some (.cells #[v'] 22 (0, 0))) (q2 : Owned w4 B v' (l0 ++ [⟨d, k, x, y, W, H, 0⟩])) (q3 : Upd (fun k => k = ob ∨ some k = v0.ownBlock) w2 w4)
    (hu : Upd (fun i => i = b ∨ i = ob ∨ some i = v0.ownBlock) w w4) (hown2 : Owned w2 B v0 l0) (hg : ∀ g, v'.ownBlock = some g → some g = v0.ownBlock ∨ w.heap.size ≤ g) (hob : w.heap[ob]? = some (.cells #[v0] 22 (0, 0))) (hown : Owned w B v0 l0) :
    LayLoop w b a off cap ks k W H kids d x y ob B v0 l0 0 w4 := by
  have tks : ∀ i ∈ (A.split b a off cap ks).blks, Tyd w i := Rep.tyd _ _ hr
  simp only [A.blks, List.nodup_cons, List.mem_cons, not_or] at hn tks
  obtain ⟨⟨n1, n2⟩, n3, n4⟩ := hn
  have far : ∀ i, Tyd w i → i ≠ b → ¬ (i = b ∨ i = ob ∨ some i = v0.ownBlock) := by
    rintro i ti hni (e | rfl | e)
    · exact hni e
    · exact ti.ne hob (by decide) (by decide) (by decide) rfl
    · obtain ⟨cs, t, hc, ht⟩ := ti
      exact ownsRow_ne hown hc (by rcases ht with rfl | rfl | rfl <;> decide) e.symm
  subst hm
  refine ⟨v', q1, by simpa [layL] using q2, blk_upd hb2 q3 ?_, ?_, ?_, by simp [PosL], hu.mono ?_, hg⟩
  · rintro (e | e)
    · exact hne e
    · exact ownsRow_ne hown2 hb2 (by decide) e.symm
  · exact hrow.congr (hu.block a (tks a (.inr (.inl rfl))).lt (far a (tks a (.inr (.inl rfl))) (Ne.symm n1)))
  · exact hks.upd hu fun i hi => far i (tks i (.inr (.inr hi))) (by rintro rfl; exact n2 hi)
  · rintro i _ (rfl | e | e)
    · exact .inr (.inr (by simp [A.blks]))
    · exact .inl e
    · exact .inr (.inl e)

/-- A child's call, out of what holds behind j children. -/
theorem lay_round {n : Nat} (ih : LaySaid n) {w wr : World} {b a off cap m : Nat} {ks : List A} {ob B : Nat} {v0 : Value} {l0 : List Cl} {k W H d x y : Int} {kids : List R}
    (hdep : depthL kids ≤ n) (hm : m = ks.length) (hn : (A.split b a off cap ks).blks.Nodup) (hB : B ≤ w.heap.size)
    (hl : l0.length + (cntL kids + 1) ≤ 100000) (hd0 : 0 ≤ d) (hd : d + (cntL kids + 1 : Nat) ≤ 100000) (hx0 : 0 ≤ x) (hx : x + 1001 * (cntL kids + 1 : Nat) ≤ 1000000) (hy0 : 0 ≤ y) (hy : y + 1001 * (cntL kids + 1 : Nat) ≤ 1000000) (hbd : BdL 0 1000 kids)
    {j : Nat} (hj : j < m) (hL : LayLoop w b a off cap ks k W H kids d x y ob B v0 l0 j wr) :
    ∃ (kd : A) (r : R), kids[j]? = some r ∧ 0 ≤ nextX k x (kids.take j) ∧ nextX k x (kids.take j) ≤ 1000000 ∧ 0 ≤ nextY k y (kids.take j) ∧ nextY k y (kids.take j) ≤ 1000000 ∧ 0 ≤ r.w ∧ r.w ≤ 1000 ∧ 0 ≤ r.h ∧ r.h ≤ 1000 ∧ wr.cell? ⟨a, off + j, none⟩ = some kd.val ∧
      Calls Try.prog 123 #[kd.val, .int .i64 (d + 1), .int .i64 (nextX k x (kids.take j)), .int .i64 (nextY k y (kids.take j)), .pointer (some ⟨ob, 0, none⟩)] wr fun e w2 => e = .returned (.tuple #[]) ∧
        (LayLoop w b a off cap ks k W H kids d x y ob B v0 l0 (j + 1) w2 ∧ w2.cell? ⟨b, 4, none⟩ = some (.int .i64 k) ∧ w2.cell? ⟨kd.blk, 2, none⟩ = some (.int .i64 r.w) ∧ w2.cell? ⟨kd.blk, 3, none⟩ = some (.int .i64 r.h)) := by
  obtain ⟨v', h1, h2, h3, h4, h5, h6, h7, h8⟩ := hL
  have hlen := ((Reps_iff wr ks kids).1 h5).1
  obtain ⟨kd, hkd⟩ : ∃ kd, ks[j]? = some kd := ⟨ks[j]'(by omega), by simp⟩
  obtain ⟨r, hr⟩ : ∃ r, kids[j]? = some r := ⟨kids[j]'(by omega), by simp⟩
  have hs := take_split hr
  have hbd1 : BdL 0 1000 (kids.take j) := by rw [hs, BdL_append] at hbd; exact hbd.1
  have hbdr := BdL_mem hbd (List.mem_of_getElem? hr)
  have hcnt : cntL kids = cntL (kids.take j) + (r.cnt + cntL (kids.drop (j + 1))) := by
    have := congrArg cntL hs
    rw [cntL_append] at this
    simpa [cntL] using this
  have b1 := next_bd (k := k) (kids.take j) x hbd1
  have b2 := nexty_bd (k := k) (kids.take j) y hbd1
  have hwh : 0 ≤ r.w ∧ r.w ≤ 1000 ∧ 0 ≤ r.h ∧ r.h ≤ 1000 := by cases r; simp only [R.Bd] at hbdr; exact ⟨hbdr.1, hbdr.2.1, hbdr.2.2.1, hbdr.2.2.2.1⟩
  refine ⟨kd, r, hr, by omega, by omega, by omega, by omega, hwh.1, hwh.2.1, hwh.2.2.1, hwh.2.2.2, h4.cell (by simp [hkd]), ?_⟩
  have hlay := layL_length (kids.take j) k (d + 1) x y
  refine (ih kd r (d + 1) _ _ ob B v' _ wr (Nat.le_trans (depth_mem (List.mem_of_getElem? hr)) hdep) (((Reps_iff wr ks kids).1 h5).2 j kd r hkd hr) ?_ h1 h2 (Nat.le_trans hB h7.size) ?_ (by omega) (by omega) (by omega) (by omega) (by omega) (by omega) hbdr).mono ?_
  · simp only [A.blks, List.nodup_cons] at hn
    exact blks_nodup_at hn.2.2 hkd
  · simp only [List.length_append, List.length_cons, hlay]; omega
  · rintro e w2 ⟨rfl, hp⟩
    have hL2 := LayLoop.step hn hkd hr h1 h2 h3 h4 h5 h6 h7 h8 hp
    obtain ⟨_, _, _, hr2, _⟩ := hp
    have hb4 : w2.cell? ⟨b, 4, none⟩ = some (.int .i64 k) := by obtain ⟨_, _, _, h, _⟩ := hL2; exact blk_cell h 4
    exact ⟨rfl, hL2, hb4, hr2.wh.1, hr2.wh.2⟩

theorem lay_done {w wr : World} {b a off cap m : Nat} {ks : List A} {ob B : Nat} {v0 : Value} {l0 : List Cl} {k W H d x y : Int} {kids : List R} (hm : m = ks.length) (hk : k = 2 ∨ k = 3)
    {j : Nat} (hj : ¬ j < m) (hL : LayLoop w b a off cap ks k W H kids d x y ob B v0 l0 j wr) :
    LayPost w (.split b a off cap ks) (.mk k W H 0 kids) x y ob B v0 (l0 ++ (R.mk k W H 0 kids).lay d x y) wr := by
  obtain ⟨v', h1, h2, h3, h4, h5, h6, h7, h8⟩ := hL
  have hlen := ((Reps_iff wr ks kids).1 h5).1
  rw [List.take_of_length_le (by omega)] at h2
  rw [List.take_of_length_le (by omega), List.take_of_length_le (by omega)] at h6
  exact ⟨v', h1, by simpa [R.lay] using h2, ⟨rfl, hk, ⟨_, _, h3⟩, h4, h5⟩, h6, h7, h8⟩

set_option maxRecDepth 100000 in
set_option maxHeartbeats 1000000 in
theorem lay_split (n : Nat) (ih : Hid (LaySaid n)) (b a off cap m : Nat) (ks : List A) (ob B : Nat) (v0 : Value) (l0 : List Cl) (k W H d x y : Int) (kids : List R) (w : World)
   (hdep : Hid (depthL kids ≤ n)) (hm : Hid (m = ks.length)) (hr : Rep w (.split b a off cap ks) (.mk k W H 0 kids)) (hn : Hid (A.split b a off cap ks).blks.Nodup)
   (hob : w.heap[ob]? = some (.cells #[v0] 22 (0, 0))) (hown : Owned w B v0 l0) (hB : B ≤ w.heap.size)
   (hl : l0.length + (cntL kids + 1) ≤ 100000) (hd0 : 0 ≤ d) (hd : d + (cntL kids + 1 : Nat) ≤ 100000) (hx0 : 0 ≤ x) (hx : x + 1001 * (cntL kids + 1 : Nat) ≤ 1000000) (hy0 : 0 ≤ y) (hy : y + 1001 * (cntL kids + 1 : Nat) ≤ 1000000) (hbd : Hid (BdL 0 1000 kids)) :
    Calls Try.prog 123 #[.iface 102 (.pointer (some ⟨b, 0, none⟩)), .int .i64 d, .int .i64 x, .int .i64 y, .pointer (some ⟨ob, 0, none⟩)] w fun e w' => e = .returned (.tuple #[]) ∧ LayPost w (.split b a off cap ks) (.mk k W H 0 kids) x y ob B v0 (l0 ++ (R.mk k W H 0 kids).lay d x y) w' := by
  have hrr := Lib.hid hr
  simp only [Rep] at hr
  obtain ⟨_, hk, ⟨x0, y0, hb⟩, hrow, hks⟩ := hr
  rw [← hm.out] at hb
  have hm2 : m ≤ 100000 := by have := ((Reps_iff w ks kids).1 hks).1; have := cntL_length kids; have := hm.out; omega
  have hne : b ≠ ob := by rintro rfl; rw [hb] at hob; simp at hob
  have bl := blk_lt hb
  have ol := blk_lt hob
  have hw := where_inv (.split b a off cap ks) w
  have HW := Lib.hid hw; clear hw
  have c0 : w.cell? ⟨b, 0, none⟩ = some (.int .i64 x0) := blk_cell hb 0
  have c1 : w.cell? ⟨b, 1, none⟩ = some (.int .i64 y0) := blk_cell hb 1
  have f0 : w.frozen? ⟨b, 0, none⟩ = false := blk_free hb 0
  have f1 : w.frozen? ⟨b, 1, none⟩ = false := blk_free hb 1
  have Hb := Lib.hid hb; clear hb
  have Hk := Lib.hid hk; clear hk
  have Hob0 := Lib.hid hob
  have Hob := Lib.hid hob; clear hob
  have Hown0 := Lib.hid hown
  have Hown := Lib.hid hown; clear hown
  have Hrow := Lib.hid hrow; clear hrow
  have Hks := Lib.hid hks; clear hks
  go_enter Try.func123, Try.ntmps123
  go_wp2_with (first | ((with_reducible refine wpList_same0 rfl (.tmp 16) "mullion/layout.where" #[] rfl (.pointer (some ⟨b, 0, none⟩)) ?_ ?_); exact HW.out))
  have hb1 : ((w.setCell ⟨b, 0, none⟩ (.int .i64 x)).setCell ⟨b, 1, none⟩ (.int .i64 y)).heap[b]? = some (.cells #[.int .i64 x, .int .i64 y, .int .i64 W, .int .i64 H, .int .i64 k, .slice (some ⟨a, off, none⟩) m cap] 105 (0, 0)) := by
    rw [blk_set (blk_set Hb.out 0 _) 1]; simp
  have hob1 := blk_far (blk_far Hob.out ⟨b, 0, none⟩ (.int .i64 x) hne.symm) ⟨b, 1, none⟩ (.int .i64 y) hne.symm
  have hu1 : Upd (fun i => i = b) w ((w.setCell ⟨b, 0, none⟩ (.int .i64 x)).setCell ⟨b, 1, none⟩ (.int .i64 y)) :=
    ((Upd.refl _ _).setCell _ _ (by simp)).setCell _ _ (by simp)
  have hown1 : Owned ((w.setCell ⟨b, 0, none⟩ (.int .i64 x)).setCell ⟨b, 1, none⟩ (.int .i64 y)) B v0 l0 := (Hown.out.setCell Hb.out (by decide) 0 _).setCell (blk_set Hb.out 0 _) (by decide) 1 _
  generalize ((w.setCell ⟨b, 0, none⟩ (.int .i64 x)).setCell ⟨b, 1, none⟩ (.int .i64 y)) = w1 at *
  clear c0 c1 f0 f1
  have c2 : w1.cell? ⟨b, 2, none⟩ = some (.int .i64 W) := blk_cell hb1 2
  have c3 : w1.cell? ⟨b, 3, none⟩ = some (.int .i64 H) := blk_cell hb1 3
  have bl1 := blk_lt hb1
  have Hb1 := Lib.hid hb1; clear hb1
  have Hob1 := Lib.hid hob1; clear hob1
  have Hu1 := Lib.hid hu1; clear hu1
  have Hown1 := Lib.hid hown1; clear hown1
  go_region_held3 (fun w' => w'.cell? ⟨b, 2, none⟩ = some (.int .i64 W) ∧ w'.cell? ⟨b, 3, none⟩ = some (.int .i64 H)) (first | go_keep) (first | fail)
  have t1 := ta_split_split
  have c4 : w1.cell? ⟨b, 4, none⟩ = some (.int .i64 k) := blk_cell Hb1.out 4
  go_wp2_with fail
  have hcb := heap_alloc_new w1 (.cells #[.int .i64 d, .int .i64 k, .int .i64 x, .int .i64 y, .int .i64 W, .int .i64 H, .int .i64 0] 53)
  have hb2 := blk_alloc Hb1.out (.cells #[.int .i64 d, .int .i64 k, .int .i64 x, .int .i64 y, .int .i64 W, .int .i64 H, .int .i64 0] 53)
  have hob2 := blk_alloc Hob1.out (.cells #[.int .i64 d, .int .i64 k, .int .i64 x, .int .i64 y, .int .i64 W, .int .i64 H, .int .i64 0] 53)
  have hown2 := Hown1.out.alloc (.cells #[.int .i64 d, .int .i64 k, .int .i64 x, .int .i64 y, .int .i64 W, .int .i64 H, .int .i64 0] 53)
  have hncb : v0.ownBlock ≠ some w1.heap.size := fun e => by have := Hown1.out.lt e; omega
  have hu2 := Hu1.out.alloc (.cells #[.int .i64 d, .int .i64 k, .int .i64 x, .int .i64 y, .int .i64 W, .int .i64 H, .int .i64 0] 53)
  generalize w1.alloc (.cells #[.int .i64 d, .int .i64 k, .int .i64 x, .int .i64 y, .int .i64 W, .int .i64 H, .int .i64 0] 53) = w2 at *
  generalize w1.heap.size = cb at *
  clear c2 c3 c4 t1 Hb1 Hob1 Hown1 Hu1 Hb Hob Hown bl1
  have cc : cb < w2.heap.size := blk_lt hcb
  have d0 : w2.cell? ⟨cb, 0, none⟩ = some (.int .i64 d) := blk_cell hcb 0
  have d1 : w2.cell? ⟨cb, 1, none⟩ = some (.int .i64 k) := blk_cell hcb 1
  have d2 : w2.cell? ⟨cb, 2, none⟩ = some (.int .i64 x) := blk_cell hcb 2
  have d3 : w2.cell? ⟨cb, 3, none⟩ = some (.int .i64 y) := blk_cell hcb 3
  have d4 : w2.cell? ⟨cb, 4, none⟩ = some (.int .i64 W) := blk_cell hcb 4
  have d5 : w2.cell? ⟨cb, 5, none⟩ = some (.int .i64 H) := blk_cell hcb 5
  have d6 : w2.cell? ⟨cb, 6, none⟩ = some (.int .i64 0) := blk_cell hcb 6
  have o0 : w2.cell? ⟨ob, 0, none⟩ = some v0 := blk_cell hob2 0
  have fo : w2.frozen? ⟨ob, 0, none⟩ = false := blk_free hob2 0
  have ol2 := blk_lt hob2
  have hne2 : v0.ownBlock ≠ some ob := ownsRow_ne hown2 hob2 (by decide)
  have hB2 : B ≤ w2.heap.size := Nat.le_trans hB hu2.size
  have Hcb := Lib.hid hcb; clear hcb
  have Hb2 := Lib.hid hb2; clear hb2
  have Hob2 := Lib.hid hob2; clear hob2
  have Hown2 := Lib.hid hown2; clear hown2
  have Hu2 := Lib.hid hu2; clear hu2
  have Hne2 := Lib.hid hne2; clear hne2
  have Hncb := Lib.hid hncb; clear hncb
  obtain ⟨i0, hi0, hz0, hz1, hz2⟩ := info_parts info53
  have Hi := Lib.hid hi0; have Hz0 := Lib.hid hz0; have Hz1 := Lib.hid hz1; have Hz2 := Lib.hid hz2
  clear hi0 hz0 hz1 hz2
  have nw1 := World.new_ne w2 ⟨cb, 0, none⟩ d0
  go_region_law
    ((refine step_append_lies _ (by rfl) _ _ _ (by rfl) B 53 i0 _ 7 56 Try.underlying22 Hi.out Hz0.out Hz1.out Hz2.out rfl (by omega) v0 l0.length (cvals l0) (by rfl) ((Hown2.out.alloc _).drew)
        ⟨w2.heap.size, 0, none⟩ 1 1 [.int .i64 d, .int .i64 k, .int .i64 x, .int .i64 y, .int .i64 W, .int .i64 H, .int .i64 0] (by rfl) (by rfl) (World.news_of_block (cs := #[.int .i64 d, .int .i64 k, .int .i64 x, .int .i64 y, .int .i64 W, .int .i64 H, .int .i64 0]) (t := 53) (fr := (0, 0)) (heap_alloc_new w2 _)) (by simp [Value.oneCell'])
        (by omega) (by unfold maxLen; omega) (by omega) (by simp; omega) (w2.heap.size + 1) (by simp) ?_); intro gg cap3 w3 hown3 hgrow3 hat3 hlt3; have e1 : w3.cell? ⟨ob, 0, none⟩ = some v0 := (by rw [hgrow3.cell_far _ (by simp; omega) (Ne.symm Hne2.out)]; exact (World.cell?_alloc_lt _ _ _ ol2).trans o0); have e2 : w3.frozen? ⟨ob, 0, none⟩ = false := (by rw [hgrow3.frozen_far _ (by simp; omega) (Ne.symm Hne2.out)]; simpa [frozen?_alloc_cells] using fo))
  all_goals
    have hL : LayLoop w b a off cap ks k W H kids d x y ob B v0 l0 0 (w3.setCell ⟨ob, 0, none⟩ (.slice (some ⟨gg, 0, none⟩) (l0.length + 1) cap3)) := by
      obtain ⟨q1, q2, q3⟩ := out_append (c := ⟨d, k, x, y, W, H, 0⟩) Hob2.out Hne2.out hgrow3 hown3
      have hu3 : Upd (fun i => i = b ∨ i = ob ∨ some i = v0.ownBlock) w (w3.setCell ⟨ob, 0, none⟩ (.slice (some ⟨gg, 0, none⟩) (l0.length + 1) cap3)) :=
        (Hu2.out.mono fun _ _ e => .inl e).then_ q3 fun _ _ e => .inr e
      exact lay_start hrr.out hn.out hm.out Hrow.out Hks.out Hb2.out hne q1 q2 q3 hu3 (Hown2.out) (fun g hg => by
        simp only [Value.ownBlock, Option.some.injEq] at hg
        subst hg
        rcases hat3 with e | e
        · exact .inl e.symm
        · have := Hu2.out.size
          exact .inr (by omega)) Hob0.out Hown0.out
    clear e1 e2 hown3 hgrow3 hat3 hlt3
    generalize (w3.setCell ⟨ob, 0, none⟩ (.slice (some ⟨gg, 0, none⟩) (l0.length + 1) cap3)) = w4 at *
    clear d0 d1 d2 d3 d4 d5 d6 o0 fo nw1 Hi Hz0 Hz1 Hz2 Hncb Hne2 Hu2 Hown2 Hob2 Hb2 Hcb
    have c5 : w4.cell? ⟨b, 5, none⟩ = some (.slice (some ⟨a, off, none⟩) m cap) := by obtain ⟨_, _, _, h, _⟩ := hL; rw [← hm.out] at h; exact blk_cell h 5
    have HL := Lib.hid hL; clear hL
    go_wp2_with fail
    go_loopw [2, 3, 77] (fun X Y i wr => ∃ j : Nat, j ≤ m ∧ i = .int .i64 j ∧ X = .int .i64 (nextX k x (kids.take j)) ∧ Y = .int .i64 (nextY k y (kids.take j)) ∧ LayLoop w b a off cap ks k W H kids d x y ob B v0 l0 j wr) (fun _ _ i _ => m - (intOf i).toNat)
    case atStart => exact ⟨0, Nat.zero_le _, rfl, rfl, rfl, HL.out⟩
    case round =>
      obtain ⟨j, hj, rfl, rfl, rfl, hL⟩ := hrel
      by_cases hlt : j < m
      · obtain ⟨kd, r, hr, x1, x2, y1, y2, w1, w2', h1, h2, hc, hC⟩ := lay_round ih.out hdep.out hm.out hn.out hB hl hd0 hd hx0 hx hy0 hy hbd.out hlt hL
        have HL2 := Lib.hid hL; clear hL
        have HX : Hid (nextX k x (kids.take (j + 1)) = if k = 2 then nextX k x (kids.take j) + r.w + 1 else nextX k x (kids.take j)) := by rw [take_snoc' hr]; exact nextX_snoc _ _ _ _
        have HY : Hid (nextY k y (kids.take (j + 1)) = if k = 2 then nextY k y (kids.take j) else nextY k y (kids.take j) + r.h + 1) := by rw [take_snoc' hr]; exact nextY_snoc _ _ _ _
        have HC := Lib.hid hC; clear hC
        have Hr := Lib.hid hr; clear hr
        have hwv := fun w => where_inv kd w
        generalize nextX k x (kids.take j) = X at *
        generalize nextY k y (kids.take j) = Y at *
        generalize kd.val = kv at *
        have HW2 := Lib.hid hwv; clear hwv
        go_wp2_with fail
        refine HC.out.mono ?_
        rintro e w5 ⟨rfl, hL2, k4, k2, k3⟩
        have HL3 := Lib.hid hL2; clear hL2
        go_wp2_with (first
          | ((with_reducible refine wpList_same0 rfl (.tmp 94) "mullion/layout.where" #[] rfl (.pointer (some ⟨kd.blk, 0, none⟩)) ?_ ?_); exact HW2.out _)
          | ((with_reducible refine wpList_same0 rfl (.tmp 102) "mullion/layout.where" #[] rfl (.pointer (some ⟨kd.blk, 0, none⟩)) ?_ ?_); exact HW2.out _))
        · have h2 : k = 2 := by simpa using ‹(k == 2) = true›
          exact ⟨⟨j + 1, hlt, num_succ j, int_eq (by rw [HX.out, if_pos h2, Int.add_assoc]), int_eq (by rw [HY.out, if_pos h2]), HL3.out⟩, meas_lt hlt⟩
        · have h2 : ¬ k = 2 := by simpa using ‹(k == 2) = false›
          exact ⟨⟨j + 1, hlt, num_succ j, int_eq (by rw [HX.out, if_neg h2]), int_eq (by rw [HY.out, if_neg h2, Int.add_assoc]), HL3.out⟩, meas_lt hlt⟩
      · go_wp2_with fail
        go_end0
        exact ⟨rfl, lay_done hm.out Hk.out hlt hL⟩

end Go.Proofs.Ytpehceccnjdfeaa
