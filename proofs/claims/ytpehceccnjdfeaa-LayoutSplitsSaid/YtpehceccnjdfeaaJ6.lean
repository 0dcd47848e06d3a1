import Derived.Test.YtpehceccnjdfeaaF9
import Derived.Test.YtpehceccnjdfeaaC5
import Derived.Test.YtpehceccnjdfeaaJ3
import Derived.Test.YtpehceccnjdfeaaD9
import Derived.Test.YtpehceccnjdfeaaH0

section
/- The reference's fresh and cell. -/
namespace Go.Proofs.Ytpehceccnjdfeaa
open Go.RowKit

set_option maxRecDepth 100000 in
theorem rfresh_any (v : Value) (l : List Int) (id : Int) (w : World) (hr : Reads1 w v (ints l)) (hl : l.length ≤ 100000) : Calls Try.prog 81 #[v, .int .i64 id] w fun e w' => e = .returned (.int .i64 (freshF l id)) ∧ w = w' := by
  have hh := has_any v l id w hr hl
  obtain ⟨a, cap, rfl, _⟩ := hr
  have hlen : (ints l).length = l.length := by simp [ints]
  rw [hlen] at hh ⊢
  clear hlen
  by_cases h1 : id < 1
  · have : freshF l id = 43 := by unfold freshF idB; rw [if_pos]; simp; left; omega
    rw [this]
    go_enter Try.func81, Try.ntmps81
    go_wp2_with fail
    go_ret
    exact ⟨rfl, rfl⟩
  · by_cases h2 : 4611686018427387904 < id
    · have : freshF l id = 43 := by unfold freshF idB; rw [if_pos]; simp; left; omega
      rw [this]
      go_enter Try.func81, Try.ntmps81
      go_wp2_with fail
      go_ret
      exact ⟨rfl, rfl⟩
    · have hid : idB id = true := (idB_iff id).2 (by omega)
      cases hc : l.contains id with
      | true =>
        rw [hc] at hh
        have : freshF l id = 43 := by unfold freshF; rw [if_pos]; simp [hc] at *; right; exact hc
        rw [this]
        have HH := Lib.hid hh; clear hh hc
        go_enter Try.func81, Try.ntmps81
        go_wp2_with fail
        refine HH.out.mono ?_
        rintro e w' ⟨rfl, rfl⟩
        go_wp2_with fail
        go_ret
        exact ⟨rfl, rfl⟩
      | false =>
        rw [hc] at hh
        have hc' : id ∉ l := by simpa using hc
        have hf : freshF l id = if 32 ≤ l.length then 45 else 0 := by unfold freshF; rw [if_neg]; simp [hid, hc']
        rw [hf]
        have HH := Lib.hid hh; clear hh hc hc' hf
        by_cases h3 : 32 ≤ l.length
        · rw [if_pos h3]
          have h3' : (32 : Int) ≤ l.length := by omega
          go_enter Try.func81, Try.ntmps81
          go_wp2_with fail
          refine HH.out.mono ?_
          rintro e w' ⟨rfl, rfl⟩
          go_wp2_with fail
          go_ret
          exact ⟨rfl, rfl⟩
        · rw [if_neg h3]
          have h3' : ¬ (32 : Int) ≤ l.length := by omega
          go_enter Try.func81, Try.ntmps81
          go_wp2_with fail
          refine HH.out.mono ?_
          rintro e w' ⟨rfl, rfl⟩
          go_wp2_with fail
          go_ret
          exact ⟨rfl, rfl⟩

mutual
/-- The pane's own cell. -/
def R.cellR (pane : Int) : R → R
  | .mk k w h i kids => if k = 1 then .mk k w h i kids else cellRL pane kids
def cellRL (pane : Int) : List R → R
  | [] => .mk 0 0 0 0 []
  | r :: rs => if pane ∈ r.ids then r.cellR pane else cellRL pane rs
end
theorem cellR_mk (pane k w h i : Int) (kids : List R) : (R.mk k w h i kids).cellR pane = if k = 1 then .mk k w h i kids else cellRL pane kids := by rw [R.cellR]
theorem cellRL_nil (pane : Int) : cellRL pane [] = .mk 0 0 0 0 [] := by rw [cellRL]
theorem cellRL_cons (pane : Int) (r : R) (rs : List R) : cellRL pane (r :: rs) = if pane ∈ r.ids then r.cellR pane else cellRL pane rs := by rw [cellRL]
theorem cellRL_at (pane : Int) : ∀ (l : List R) (j : Nat) (r : R), l[j]? = some r → (∀ i q, i < j → l[i]? = some q → pane ∉ q.ids) → pane ∈ r.ids → cellRL pane l = r.cellR pane
  | [], j, r, h, _, _ => by simp at h
  | x :: l, 0, r, h, _, hp => by simp only [List.getElem?_cons_zero, Option.some.injEq] at h; subst h; rw [cellRL_cons, if_pos hp]
  | x :: l, j + 1, r, h, hno, hp => by
    rw [cellRL_cons, if_neg (hno 0 x (by omega) rfl)]
    exact cellRL_at pane l j r (by rwa [List.getElem?_cons_succ] at h) (fun i q hi hq => hno (i + 1) q (by omega) (by rw [List.getElem?_cons_succ]; exact hq)) hp
theorem cellRL_none (pane : Int) : ∀ (l : List R), (∀ q ∈ l, pane ∉ q.ids) → cellRL pane l = .mk 0 0 0 0 []
  | [], _ => cellRL_nil _
  | x :: l, h => by rw [cellRL_cons, if_neg (h x (by simp)), cellRL_none pane l (fun q hq => h q (by simp [hq]))]

/-- A node's value, its children's slice unknown. -/
def CellPost (w : World) (z : R) (e : Ending) (w' : World) : Prop := ∃ (a : Option Addr) (n c : Nat), e = .returned (.agg #[.int .i64 z.kind, .int .i64 z.w, .int .i64 z.h, .int .i64 z.id, .slice a n c]) ∧ Below w.heap.size w w'

def RCellSaid (n : Nat) : Prop := ∀ (r : R) (pane : Int) (v : Value) (w : World), r.depth ≤ n → NRep w v r → r.cnt ≤ 1000 → Calls Try.prog 83 #[v, .int .i64 pane] w fun e w' => CellPost w (r.cellR pane) e w'

theorem rcell_leaf (W H i pane : Int) (a : Option Addr) (n c : Nat) (w : World) : Calls Try.prog 83 #[.agg #[.int .i64 1, .int .i64 W, .int .i64 H, .int .i64 i, .slice a n c], .int .i64 pane] w fun e w' => ∃ (a : Option Addr) (n c : Nat), e = .returned (.agg #[.int .i64 1, .int .i64 W, .int .i64 H, .int .i64 i, .slice a n c]) ∧ Below w.heap.size w w' := by
  go_enter Try.func83, Try.ntmps83
  go_wp2_with fail
  have a1 := heap_alloc_new (w.alloc (.cells #[.int .i64 1, .int .i64 W, .int .i64 H, .int .i64 i, .slice a n c] 88)) (.cells #[.int .i64 1, .int .i64 W, .int .i64 H, .int .i64 i, .slice a n c] 88)
  rw [World.size_alloc] at a1
  (try simp only [Exit.inBlock, Exit.then])
  refine bodyPost_ret (res_node1 rfl _ _ (w.heap.size + 1) _ rfl a1 rfl) rfl ?_
  exact ⟨a, n, c, rfl, ((Below.refl _ _).alloc (Nat.le_refl _) _).alloc (by simp) _⟩

structure RCellLoop (w : World) (bv : Array Value) (wr : World) : Prop where
  bel : Below w.heap.size w wr
  box : wr.heap[w.heap.size]? = some (.cells bv 88 (0, 0))
  res : wr.heap[w.heap.size + 1]? = some (.cells #[.int .i64 0, .int .i64 0, .int .i64 0, .int .i64 0, .slice none 0 0] 88 (0, 0))

theorem RCellLoop.step {w wr w2 : World} {bv : Array Value} (h : RCellLoop w bv wr) (hb : Below wr.heap.size wr w2) : RCellLoop w bv w2 :=
  ⟨h.bel.trans (hb.mono h.bel.size), blk_below h.box hb, blk_below h.res hb⟩

set_option maxRecDepth 100000 in
set_option maxHeartbeats 2000000 in
theorem rcell_node (n : Nat) (ih : Hid (RCellSaid n)) (k W H i pane : Int) (kids : List R) (m : Nat) (a : Option Addr) (cap : Nat) (w : World) (hk : ¬ k = 1) (hdep : Hid (depthL kids ≤ n)) (hm : Hid (m = kids.length)) (hm1 : m ≤ 1000) (hm2 : m ≤ cap) (hcap : cap ≤ maxLen)
    (hat : Hid (kids ≠ [] → ∃ b off, a = some ⟨b, off, none⟩ ∧ ∀ j r, kids[j]? = some r → NAt w b (off + j * 5) r)) (hcnt : Hid (cntL kids + 1 ≤ 1000)) :
    Calls Try.prog 83 #[.agg #[.int .i64 k, .int .i64 W, .int .i64 H, .int .i64 i, .slice a m cap], .int .i64 pane] w fun e w' => CellPost w (cellRL pane kids) e w' := by
  have hk2 : (k == 1) = false := by simpa using hk
  go_enter Try.func83, Try.ntmps83
  go_wp2_with fail
  go_loopw [5] (fun iv wr => ∃ j : Nat, j ≤ m ∧ iv = .int .i64 j ∧ Hid (∀ i q, i < j → kids[i]? = some q → pane ∉ q.ids) ∧ RCellLoop w #[.int .i64 k, .int .i64 W, .int .i64 H, .int .i64 i, .slice a m cap] wr) (fun iv _ => m - (intOf iv).toNat)
  case atStart =>
    have e2 := heap_alloc_new (w.alloc (.cells #[.int .i64 k, .int .i64 W, .int .i64 H, .int .i64 i, .slice a m cap] 88)) (.cells #[.int .i64 0, .int .i64 0, .int .i64 0, .int .i64 0, .slice none 0 0] 88)
    rw [World.size_alloc] at e2
    exact ⟨0, Nat.zero_le _, rfl, fun i q hi => by omega, ((Below.refl _ _).alloc (Nat.le_refl _) _).alloc (by simp) _, blk_alloc (heap_alloc_new w _) _, e2⟩
  case round =>
    obtain ⟨j, hj, rfl, hno, hL⟩ := hrel
    have c4 : wr.cell? ⟨w.heap.size, 4, none⟩ = some (.slice a m cap) := blk_cell hL.box 4
    have hb1 := blk_lt hL.res
    by_cases hlt : j < m
    · obtain ⟨r, hr⟩ : ∃ r, kids[j]? = some r := ⟨kids[j]'(by rw [← hm.out]; exact hlt), by simp⟩
      obtain ⟨b, off, rfl, hA⟩ := hat.out (by rintro rfl; simp at hr)
      obtain ⟨_, ⟨sa, sc, rfl⟩, g1, k0, k1, k2, k3, k4⟩ := ((hA j r hr).below hL.bel).rep
      have hmem := List.mem_of_getElem? hr
      have hrc : r.cnt ≤ cntL kids := cnt_mem hmem
      have hcn := hcnt.out
      have hI : Calls Try.prog 79 #[.agg #[.int .i64 r.kind, .int .i64 r.w, .int .i64 r.h, .int .i64 r.id, .slice sa r.kids.length sc]] wr fun e w' => IntsPost wr r.ids e w' := rids_any _ r _ wr (Nat.le_refl _) g1 (by omega)
      have hC : ∀ V, Below wr.heap.size wr V → Calls Try.prog 83 #[.agg #[.int .i64 r.kind, .int .i64 r.w, .int .i64 r.h, .int .i64 r.id, .slice sa r.kids.length sc], .int .i64 pane] V fun e w' => CellPost V (r.cellR pane) e w' := fun V hV =>
        ih.out r pane _ V (Nat.le_trans (depth_mem hmem) hdep.out) (g1.below hV) (by omega)
      have hidl := ids_cnt r
      have HI := Lib.hid hI; have HC := Lib.hid hC; have HR := Lib.hid hr; have HL := Lib.hid hL
      have HKB : Hid (wr.cell? ⟨b, off + j * 5, none⟩ = some (.int .i64 r.kind) ∧ wr.cell? ⟨b, off + j * 5 + 1, none⟩ = some (.int .i64 r.w) ∧ wr.cell? ⟨b, off + j * 5 + 2, none⟩ = some (.int .i64 r.h) ∧ wr.cell? ⟨b, off + j * 5 + 3, none⟩ = some (.int .i64 r.id) ∧ wr.cell? ⟨b, off + j * 5 + 4, none⟩ = some (.slice sa r.kids.length sc)) := Lib.hid ⟨k0, k1, k2, k3, k4⟩
      clear hI hC hr hL hA g1 hat
      go_wp2_with fail
      refine HI.out.mono ?_
      rintro e w2 ⟨v2, rfl, o2, hb2⟩
      have hh := has_any v2 r.ids pane w2 (reads1_of_owns o2) (by omega)
      have HL2 := Lib.hid (HL.out.step hb2)
      have c4' : w2.cell? ⟨w.heap.size, 4, none⟩ = some (.slice (some ⟨b, off, none⟩) m cap) := blk_cell HL2.out.box 4
      have k0' := cell_below hb2 HKB.out.1
      have k1' := cell_below hb2 HKB.out.2.1
      have k2' := cell_below hb2 HKB.out.2.2.1
      have k3' := cell_below hb2 HKB.out.2.2.2.1
      have k4' := cell_below hb2 HKB.out.2.2.2.2
      have HB2 := Lib.hid hb2
      clear o2 hb2 k0 k1 k2 k3 k4 c4 HI
      by_cases hp : pane ∈ r.ids
      · have hct : r.ids.contains pane = true := by simpa using hp
        rw [hct] at hh
        have HH := Lib.hid hh; have HC2 := Lib.hid (HC.out w2 HB2.out); have HP := Lib.hid hp
        clear hh hct hp HC
        go_wp2_with fail
        refine HH.out.mono ?_
        rintro e w' ⟨rfl, rfl⟩
        go_wp2_with fail
        refine HC2.out.mono ?_
        rintro e w3 ⟨za, zn, zc, rfl, hb3⟩
        have HL3 := Lib.hid (HL2.out.step hb3)
        have hzz : cellRL pane kids = r.cellR pane := cellRL_at pane kids j r HR.out hno.out HP.out
        have r0 : w3.cell? ⟨w.heap.size + 1, 0, none⟩ = some (.int .i64 0) := blk_cell HL3.out.res 0
        have r1 : w3.cell? ⟨w.heap.size + 1, 1, none⟩ = some (.int .i64 0) := blk_cell HL3.out.res 1
        have r2 : w3.cell? ⟨w.heap.size + 1, 2, none⟩ = some (.int .i64 0) := blk_cell HL3.out.res 2
        have r3 : w3.cell? ⟨w.heap.size + 1, 3, none⟩ = some (.int .i64 0) := blk_cell HL3.out.res 3
        have r4 : w3.cell? ⟨w.heap.size + 1, 4, none⟩ = some (.slice none 0 0) := blk_cell HL3.out.res 4
        have q0 := blk_free HL3.out.res 0
        have q1 := blk_free HL3.out.res 1
        have q2 := blk_free HL3.out.res 2
        have q3 := blk_free HL3.out.res 3
        have q4 := blk_free HL3.out.res 4
        generalize r.cellR pane = z at *
        have HZZ := Lib.hid hzz
        clear hzz hb3 k0' k1' k2' k3' k4' c4' HC2 HH
        go_wp2_with fail
        (try simp only [Exit.inBlock, Exit.then])
        have hs5 := set5 (w := w3) (b := w.heap.size + 1) (t := 88) HL3.out.res rfl (.int .i64 z.kind) (.int .i64 z.w) (.int .i64 z.h) (.int .i64 z.id) (.slice za zn zc)
        refine bodyPost_ret (res_node1 rfl _ _ (w.heap.size + 1) _ rfl hs5.1 rfl) rfl ?_
        rw [HZZ.out]
        exact ⟨za, zn, zc, rfl, HL3.out.bel.trans (hs5.2.below _ HL3.out.bel.size (fun q _ e => by omega))⟩
      · have hct : r.ids.contains pane = false := by simpa using hp
        rw [hct] at hh
        have HH := Lib.hid hh; have HP := Lib.hid hp
        clear hh hct hp HC
        go_wp2_with fail
        refine HH.out.mono ?_
        rintro e w' ⟨rfl, rfl⟩
        clear k0' k1' k2' k3' k4' c4' HH
        go_wp2_with fail
        refine ⟨⟨j + 1, hlt, num_succ j, ?_, HL2.out⟩, meas_lt hlt⟩
        refine Lib.hid fun i q hi hq => ?_
        by_cases hij : i < j
        · exact hno.out i q hij hq
        · obtain rfl : i = j := by omega
          rw [HR.out] at hq
          cases hq
          exact HP.out
    · have hz : cellRL pane kids = .mk 0 0 0 0 [] := cellRL_none pane kids (fun q hq => by
        obtain ⟨i, hi⟩ := List.mem_iff_getElem?.1 hq
        exact hno.out i q (by have := (List.getElem?_eq_some_iff.1 hi).1; have := hm.out; omega) hi)
      have HZ := Lib.hid hz
      have r0 : wr.cell? ⟨w.heap.size + 1, 0, none⟩ = some (.int .i64 0) := blk_cell hL.res 0
      have r1 : wr.cell? ⟨w.heap.size + 1, 1, none⟩ = some (.int .i64 0) := blk_cell hL.res 1
      have r2 : wr.cell? ⟨w.heap.size + 1, 2, none⟩ = some (.int .i64 0) := blk_cell hL.res 2
      have r3 : wr.cell? ⟨w.heap.size + 1, 3, none⟩ = some (.int .i64 0) := blk_cell hL.res 3
      have r4 : wr.cell? ⟨w.heap.size + 1, 4, none⟩ = some (.slice none 0 0) := blk_cell hL.res 4
      have q0 := blk_free hL.res 0
      have q1 := blk_free hL.res 1
      have q2 := blk_free hL.res 2
      have q3 := blk_free hL.res 3
      have q4 := blk_free hL.res 4
      have HL := Lib.hid hL
      clear hL hz hat
      go_wp2_with fail
      (try simp only [Exit.inBlock, Exit.then])
      have hs5 := set5 (w := wr) (b := w.heap.size + 1) (t := 88) HL.out.res rfl (.int .i64 0) (.int .i64 0) (.int .i64 0) (.int .i64 0) (.slice none 0 0)
      refine bodyPost_ret (res_node1 rfl _ _ (w.heap.size + 1) _ rfl hs5.1 rfl) rfl ?_
      rw [HZ.out]
      exact ⟨none, 0, 0, rfl, HL.out.bel.trans (hs5.2.below _ HL.out.bel.size (fun q _ e => by omega))⟩

theorem rcell_any (n : Nat) : RCellSaid n := by
  induction n with
  | zero =>
    intro r pane v w hd
    cases r
    simp [R.depth] at hd
  | succ n ih =>
    intro r pane v w hdep hr hc
    cases r with
    | mk k W H i kids =>
      obtain ⟨a, cap, rfl, h1, h2, h3⟩ := hr.open
      simp only [R.depth] at hdep
      simp only [R.cnt] at hc
      have := cntL_length kids
      rw [cellR_mk]
      by_cases hk : k = 1
      · subst hk; rw [if_pos rfl]; exact rcell_leaf W H i pane a _ cap w
      · rw [if_neg hk]
        exact rcell_node n ih k W H i pane kids kids.length a cap w hk (Nat.le_of_succ_le_succ hdep) rfl (by omega) h1 h2 h3 hc

end Go.Proofs.Ytpehceccnjdfeaa
end

section
/- The reference's cut is the program's, plain. -/
namespace Go.Proofs.Ytpehceccnjdfeaa

mutual
theorem find_ids (p : Int) : ∀ (r : R), (r.find p).isSome = true ↔ p ∈ r.ids
  | .mk k w h i kids => by
    rw [R.find, R.ids]
    by_cases hk : k = 1
    · rw [if_pos hk, if_pos hk]
      by_cases hi : i = p
      · rw [if_pos hi]; simp [hi]
      · rw [if_neg hi]; simp [Ne.symm hi]
    · rw [if_neg hk, if_neg hk]; exact findL_ids p kids 0
theorem findL_ids (p : Int) : ∀ (l : List R) (n : Nat), (findL p n l).isSome = true ↔ p ∈ idsL l
  | [], n => by simp [findL, idsL]
  | r :: rs, n => by
    rw [findL, idsL, List.mem_append]
    have h1 := find_ids p r
    have h2 := findL_ids p rs (n + 1)
    cases hf : r.find p with
    | some q => rw [hf] at h1; simp only [Option.isSome_some, true_iff] at h1 ⊢; exact .inl h1
    | none =>
      rw [hf] at h1
      simp only [Option.isSome_none, Bool.false_eq_true, false_iff] at h1
      simp only []
      rw [h2]
      constructor
      · exact .inr
      · rintro (h | h)
        · exact absurd h h1
        · exact h
end

theorem joined_other {acc : List R} {k : Int} {z : R} (h : z.kind ≠ k) : joinedF acc k z = acc ++ [z] := by unfold joinedF; rw [if_neg h]

mutual
theorem cutR_id (pane kind size : Int) (before : Bool) (id : Int) : ∀ (r : R), r.ok → pane ∉ r.ids → r.cutR pane kind size before id = r
  | .mk k w h i kids, hok, hp => by
    rw [cutR_mk]
    simp only [R.ok] at hok
    rw [R.ids] at hp
    by_cases hk : k = 1
    · rw [if_pos hk] at hp ⊢
      rw [if_neg (by rintro rfl; simp at hp)]
    · rw [if_neg hk] at hp ⊢
      rcases hok.2 with ⟨h, _⟩ | ⟨_, _, _, hl, _⟩
      · exact absurd h hk
      · rw [cutRL_id pane kind size before id kids k [] (fun r hr => ⟨(okL_mem hl hr).1, (okL_mem hl hr).2.2⟩) hp]; rfl
theorem cutRL_id (pane kind size : Int) (before : Bool) (id : Int) : ∀ (l : List R) (k : Int) (acc : List R), (∀ r ∈ l, r.kind ≠ k ∧ r.ok) → pane ∉ idsL l → cutRL pane kind size before id k acc l = acc ++ l
  | [], k, acc, _, _ => by rw [cutRL_nil]; simp
  | r :: rs, k, acc, h, hp => by
    rw [idsL, List.mem_append, not_or] at hp
    obtain ⟨h1, h2⟩ := h r (by simp)
    rw [cutRL_cons, cutR_id pane kind size before id r h2 hp.1, joined_other h1, cutRL_id pane kind size before id rs k (acc ++ [r]) (fun q hq => h q (by simp [hq])) hp.2]
    simp
end

theorem cutRL_two (pane kind size : Int) (before : Bool) (id : Int) (k : Int) : ∀ (l m acc : List R), cutRL pane kind size before id k acc (l ++ m) = cutRL pane kind size before id k (cutRL pane kind size before id k acc l) m
  | [], m, acc => by rw [List.nil_append, cutRL_nil]
  | r :: l, m, acc => by rw [List.cons_append, cutRL_cons, cutRL_cons, cutRL_two]

theorem leafCut_eq (kind size : Int) (before : Bool) (id W H p : Int) (hk : kind = 2 ∨ kind = 3) : leafCut kind size before id W H p = .mk kind W H 0 (cutPair kind (splitN (ext kind W H) size) before id W H p) := by
  have h1 : ¬ (1 : Int) = kind := by omega
  have hj : ∀ a b : R, a.kind = 1 → b.kind = 1 → joinedF (joinedF [] kind a) kind b = [a, b] := by
    intro a b ha hb
    unfold joinedF
    rw [ha, hb, if_neg h1, if_neg h1]; rfl
  unfold leafCut cutPair
  simp only []
  generalize splitN (ext kind W H) size = n
  rcases hk with rfl | rfl
  · have e1 : (R.mk 1 W H p []).setExt 2 (ext 2 W H - 1 - n) = sizedF W H p 2 (ext 2 W H - 1 - n) := by simp [R.setExt, sizedF]
    have e2 : (R.mk 1 W H id []).setExt 2 n = sizedF W H id 2 n := by simp [R.setExt, sizedF]
    rw [e1, e2]
    cases before
    · simp only [Bool.false_eq_true, if_false, pairF]
      rw [hj _ _ rfl rfl]
      simp [sizedF, R.w, R.h, ext]
    · simp only [if_true, pairF]
      rw [hj _ _ rfl rfl]
      simp [sizedF, R.w, R.h, ext]; omega
  · have e1 : (R.mk 1 W H p []).setExt 3 (ext 3 W H - 1 - n) = sizedF W H p 3 (ext 3 W H - 1 - n) := by simp [R.setExt, sizedF]
    have e2 : (R.mk 1 W H id []).setExt 3 n = sizedF W H id 3 n := by simp [R.setExt, sizedF]
    rw [e1, e2]
    cases before
    · simp only [Bool.false_eq_true, if_false, pairF]
      rw [hj _ _ rfl rfl]
      simp [sizedF, R.w, R.h, ext]
    · simp only [if_true, pairF]
      rw [hj _ _ rfl rfl]
      simp [sizedF, R.w, R.h, ext]; omega

theorem idsL_take_drop {kids : List R} {i : Nat} {z : R} (h : kids[i]? = some z) : idsL kids = idsL (kids.take i) ++ (z.ids ++ idsL (kids.drop (i + 1))) := by
  have := congrArg idsL (take_split h)
  rw [idsL_app] at this
  exact this

theorem cut_law (pane kind size : Int) (before : Bool) (id : Int) (hk : kind = 2 ∨ kind = 3) (W H : Int) : ∀ (q : List Nat) (r : R), r.ok → r.ids.Nodup → r.find pane = some q → r.at q = some (.mk 1 W H pane []) →
    r.cutR pane kind size before id = r.cutAt kind (cutPair kind (splitN (ext kind W H) size) before id W H pane) W H q
  | [], r, hok, hnd, hf, ha => by
    rw [R.at_nil] at ha
    cases ha
    rw [cutR_mk, if_pos rfl, if_pos rfl, leafCut_eq kind size before id W H pane hk, R.cutAt]
  | i :: q, .mk k w h i0 kids, hok, hnd, hf, ha => by
    rw [R.find] at hf
    by_cases hk1 : k = 1
    · rw [if_pos hk1] at hf
      split at hf <;> cases hf
    · rw [if_neg hk1] at hf
      obtain ⟨j', z, q', h1, h2, h3⟩ := findL_len (P := fun _ _ => True) pane kids 0 _ hf
      simp only [Nat.zero_add, List.cons.injEq] at h1
      obtain ⟨rfl, rfl⟩ := h1
      simp only [R.at, h2] at ha
      simp only [R.ok] at hok
      rcases hok.2 with ⟨hc, _⟩ | ⟨_, _, _, hl, _⟩
      · exact absurd hc hk1
      have hall : ∀ r ∈ kids, r.kind ≠ k ∧ r.ok := fun r hr => ⟨(okL_mem hl hr).1, (okL_mem hl hr).2.2⟩
      have hzm := List.mem_of_getElem? h2
      obtain ⟨hzk, hzok⟩ := hall z hzm
      rw [R.ids, if_neg hk1, idsL_take_drop h2] at hnd
      have hpz : pane ∈ z.ids := (find_ids pane z).1 (by rw [h3]; rfl)
      have hn1 := List.nodup_append.1 hnd
      have hn2 := List.nodup_append.1 hn1.2.1
      have hp1 : pane ∉ idsL (kids.take i) := fun hm => hn1.2.2 _ hm _ (List.mem_append_left _ hpz) rfl
      have hp2 : pane ∉ idsL (kids.drop (i + 1)) := fun hm => hn2.2.2 _ hpz _ hm rfl
      have ih := cut_law pane kind size before id hk W H q z hzok hn2.1 h3 ha
      rw [cutR_mk, if_neg hk1]
      have hsplit : cutRL pane kind size before id k [] kids = joinedF (kids.take i) k (z.cutR pane kind size before id) ++ kids.drop (i + 1) := by
        have e := take_split h2
        rw [show cutRL pane kind size before id k [] kids = cutRL pane kind size before id k [] (kids.take i ++ z :: kids.drop (i + 1)) by rw [← e], cutRL_two, cutRL_id pane kind size before id (kids.take i) k [] (fun r hr => hall r (List.mem_of_mem_take hr)) hp1, cutRL_cons,
          cutRL_id pane kind size before id (kids.drop (i + 1)) k _ (fun r hr => hall r (List.mem_of_mem_drop hr)) hp2]
        rfl
      have hil := (List.getElem?_eq_some_iff.1 h2).1
      rw [hsplit, ih, R.cutAt]
      by_cases hq : q = []
      · subst hq
        rw [R.at_nil] at ha
        cases ha
        rw [R.cutAt]
        by_cases hkk : k = kind
        · rw [if_pos ⟨rfl, hkk⟩]
          unfold joinedF
          rw [if_pos (by simp only [R.kind]; exact hkk.symm)]
          rfl
        · rw [if_neg (fun h => hkk h.2), joined_other (by simp only [R.kind]; exact Ne.symm hkk), h2]
          simp only [R.cutAt]
          rw [List.set_eq_take_append_cons_drop, if_pos hil]
          simp
      · rw [if_neg (fun h => hq h.1), h2]
        simp only []
        have hzk2 : (z.cutAt kind (cutPair kind (splitN (ext kind W H) size) before id W H pane) W H q).kind ≠ k := by
          rw [← ih]
          rcases cutR_kind pane kind size before id hk z with h4 | h4
          · rw [h4]; exact hzk
          · exfalso
            obtain ⟨zk, zw, zh, zi, zkids⟩ := z
            simp only [R.kind] at h4
            rw [R.find, if_pos h4.1] at h3
            split at h3
            · simp only [Option.some.injEq] at h3; exact hq h3.symm
            · cases h3
        rw [joined_other hzk2, List.set_eq_take_append_cons_drop, if_pos hil]
        simp

theorem cell_law (pane W H : Int) : ∀ (q : List Nat) (r : R), r.ok → r.ids.Nodup → r.find pane = some q → r.at q = some (.mk 1 W H pane []) → r.cellR pane = .mk 1 W H pane []
  | [], r, hok, hnd, hf, ha => by
    rw [R.at_nil] at ha
    cases ha
    rw [cellR_mk, if_pos rfl]
  | i :: q, .mk k w h i0 kids, hok, hnd, hf, ha => by
    rw [R.find] at hf
    by_cases hk1 : k = 1
    · rw [if_pos hk1] at hf
      split at hf <;> cases hf
    · rw [if_neg hk1] at hf
      obtain ⟨j', z, q', h1, h2, h3⟩ := findL_len (P := fun _ _ => True) pane kids 0 _ hf
      simp only [Nat.zero_add, List.cons.injEq] at h1
      obtain ⟨rfl, rfl⟩ := h1
      simp only [R.at, h2] at ha
      simp only [R.ok] at hok
      rcases hok.2 with ⟨hc, _⟩ | ⟨_, _, _, hl, _⟩
      · exact absurd hc hk1
      have hzm := List.mem_of_getElem? h2
      rw [R.ids, if_neg hk1, idsL_take_drop h2] at hnd
      have hpz : pane ∈ z.ids := (find_ids pane z).1 (by rw [h3]; rfl)
      have hn1 := List.nodup_append.1 hnd
      have hn2 := List.nodup_append.1 hn1.2.1
      have hp1 : pane ∉ idsL (kids.take i) := fun hm => hn1.2.2 _ hm _ (List.mem_append_left _ hpz) rfl
      rw [cellR_mk, if_neg hk1, cellRL_at pane kids i z h2 ?_ hpz]
      · exact cell_law pane W H q z (okL_mem hl hzm).2.2 hn2.1 h3 ha
      · intro j x hj hx hpx
        refine hp1 ?_
        have : ∀ (l : List R), x ∈ l → pane ∈ idsL l := by
          intro l hl
          induction l with
          | nil => cases hl
          | cons a l ih =>
            rw [idsL, List.mem_append]
            rcases List.mem_cons.1 hl with rfl | hl
            · exact .inl hpx
            · exact .inr (ih hl)
        refine this _ (List.mem_of_getElem? (i := j) ?_)
        rw [List.getElem?_take, if_pos hj]; exact hx

end Go.Proofs.Ytpehceccnjdfeaa
end

section
/- The reference's Split. -/
namespace Go.Proofs.Ytpehceccnjdfeaa
open Go.RowKit

theorem rsplit_40 (v : Value) (l : List Cl) (pane kind size : Int) (before : Bool) (id : Int) (w : World) (h : Reads w v l) (hr : readF l = none) :
    Calls Try.prog 27 #[v, .int .i64 pane, .int .i64 kind, .int .i64 size, .bool before, .int .i64 id] w fun e w' => ListPost w ([], 40) e w' := by
  have HT := tree_any v l w h
  rw [hr] at HT
  have HT := Lib.hid HT; clear h hr
  go_enter Try.func27, Try.ntmps27
  go_wp2_with fail
  refine HT.out.mono ?_
  rintro e w1 ⟨hb1, rfl⟩
  have HB1 := Lib.hid hb1; clear hb1
  unfold zeroNode
  go_wp2_with fail
  go_ret2
  exact list_post_none (HB1.out.alloc HB1.out.size _)

set_option maxRecDepth 100000 in
theorem rsplit_1 (v : Value) (l : List Cl) (pane kind size : Int) (before : Bool) (id : Int) (w : World) (h : Reads w v l) (r : R) (hr : readF l = some r) (hkb : kindB kind = false) :
    Calls Try.prog 27 #[v, .int .i64 pane, .int .i64 kind, .int .i64 size, .bool before, .int .i64 id] w fun e w' => ListPost w ([], 1) e w' := by
  have HT := tree_any v l w h
  rw [hr] at HT
  have HT := Lib.hid HT; clear h hr
  have h23 : ¬ kind = 2 ∧ ¬ kind = 3 := by
    have := mt (kindB_iff kind).2 (by simp [hkb]); omega
  obtain ⟨h2, h3⟩ := h23
  have h4 : (kind == 2) = false := by simpa using h2
  have h5 : (kind != 2) = true := by simpa using h2
  have h6 : (kind != 3) = true := by simpa using h3
  have h7 : (kind != 2 && kind != 3) = true := by rw [h5, h6]; rfl
  clear hkb
  go_enter Try.func27, Try.ntmps27
  go_wp2_with fail
  refine HT.out.mono ?_
  rintro e w1 ⟨hb1, sa, sc, rfl, _⟩
  have HB1 := Lib.hid hb1; clear hb1 HT
  go_wp2_with fail
  go_ret2
  exact list_post_none (HB1.out.alloc HB1.out.size _)

/-- What Split comes to behind the ids. -/
def SplitRest (ids : List Int) (pane id : Int) (s : Int) (res : List Cl × Int) (done : List Cl) : Prop :=
  (pane ∉ ids → res = ([], 42)) ∧ (pane ∈ ids → freshF ids id ≠ 0 → res = ([], freshF ids id)) ∧ (pane ∈ ids → freshF ids id = 0 → s < 3 → res = ([], 44)) ∧ (pane ∈ ids → freshF ids id = 0 → ¬ s < 3 → res = (done, 0))

set_option maxRecDepth 100000 in
set_option maxHeartbeats 0 in
theorem rsplit_some2 (v : Value) (l : List Cl) (pane size : Int) (before : Bool) (id : Int) (w : World) (h : Reads w v l) (r : R) (ids : List Int) (hids : Hid (r.ids = ids)) (hr : readF l = some r) (s : Int) (res : List Cl × Int)
    (hs : Hid (ext (2 : Int) (r.cellR pane).w (r.cellR pane).h = s)) (hres : Hid (SplitRest ids pane id s res ((r.cutR pane (2 : Int) size before id).lay 0 0 0))) (hcb : Hid (pane ∈ ids → ¬ s < 3 → (r.cutR pane (2 : Int) size before id).Bd 0 1000 ∧ (r.cutR pane (2 : Int) size before id).cnt ≤ 1000)) :
    Calls Try.prog 27 #[v, .int .i64 pane, .int .i64 (2 : Int), .int .i64 size, .bool before, .int .i64 id] w fun e w' => ListPost w res e w' := by
  have hk : (2 : Int) = 2 ∨ (2 : Int) = 3 := by decide
  have HT := tree_any v l w h
  rw [hr] at HT
  have RI := read_is hr
  have hrl := RI.len
  have hrc := RI.cnt
  have hok := ((readF_iff l r).1 hr).2.1
  have hidl := ids_cnt r
  rw [hids.out] at hidl
  have hdc := depth_cnt r
  have HT := Lib.hid HT; have HOK := Lib.hid hok
  clear RI h hr hok hk
  next =>
    go_enter Try.func27, Try.ntmps27
    go_wp2_with fail
    refine HT.out.mono ?_
    rintro e w1 ⟨hb1, sa, sc, rfl, hkk⟩
    have hrep : NRep w1 (.agg #[.int .i64 r.kind, .int .i64 r.w, .int .i64 r.h, .int .i64 r.id, .slice sa r.kids.length sc]) r := ⟨_, rfl, hkk.nk⟩
    have hI : ∀ W, Below w1.heap.size w1 W → Calls Try.prog 79 #[.agg #[.int .i64 r.kind, .int .i64 r.w, .int .i64 r.h, .int .i64 r.id, .slice sa r.kids.length sc]] W fun e w' => IntsPost W ids e w' := by
      intro W hW
      have := rids_any _ r _ W (Nat.le_refl _) (hrep.below hW) (by omega)
      rwa [hids.out] at this
    have hC : ∀ W, Below w1.heap.size w1 W → Calls Try.prog 83 #[.agg #[.int .i64 r.kind, .int .i64 r.w, .int .i64 r.h, .int .i64 r.id, .slice sa r.kids.length sc], .int .i64 pane] W fun e w' => CellPost W (r.cellR pane) e w' := fun W hW => rcell_any _ r pane _ W (Nat.le_refl _) (hrep.below hW) (by omega)
    have hU : ∀ W, Below w1.heap.size w1 W → Calls Try.prog 84 #[.agg #[.int .i64 r.kind, .int .i64 r.w, .int .i64 r.h, .int .i64 r.id, .slice sa r.kids.length sc], .int .i64 pane, .int .i64 (2 : Int), .int .i64 size, .bool before, .int .i64 id] W fun e w' => NodePost W (fun b => b < w1.heap.size) (r.cutR pane (2 : Int) size before id) e w' := fun W hW =>
      rcut_any _ r (fun b => b < w1.heap.size) pane (2 : Int) size before id sa r.kids.length sc W (Nat.le_refl _) HOK.out (by omega) rfl (hkk.upd (fun b hb => hb.2) (fun b hb => hW.block b hb.2)) (fun b hb => Nat.lt_of_lt_of_le hb hW.size) (by decide)
    have HI := Lib.hid hI; have HC := Lib.hid hC; have HU := Lib.hid hU; have HB1 := Lib.hid hb1
    clear hI hC hU hb1 hkk hrep HT
    have hx2 := heap_alloc_new w1 (.cells #[.int .i64 r.kind, .int .i64 r.w, .int .i64 r.h, .int .i64 r.id, .slice sa r.kids.length sc] 88)
    have hb2 : Below w1.heap.size w1 (w1.alloc (.cells #[.int .i64 r.kind, .int .i64 r.w, .int .i64 r.h, .int .i64 r.id, .slice sa r.kids.length sc] 88)) := (Below.refl _ _).alloc (Nat.le_refl _) _
    go_wp2_with fail
    refine (HI.out _ hb2).mono ?_
    rintro e w3 ⟨v3, rfl, o3, hb3⟩
    have hb13 : Below w1.heap.size w1 w3 := hb2.trans (hb3.mono hb2.size)
    have hx3 := blk_below hx2 hb3
    obtain ⟨va, vc, hv3⟩ := own_slice o3
    subst hv3
    have hh := has_any _ ids pane w3 (reads1_of_owns o3) (by omega)
    have hf := rfresh_any _ ids id w3 (reads1_of_owns o3) (by omega)
    have k0 : w3.cell? ⟨w1.heap.size, 0, none⟩ = some (.int .i64 r.kind) := blk_cell hx3 0
    have k1 : w3.cell? ⟨w1.heap.size, 1, none⟩ = some (.int .i64 r.w) := blk_cell hx3 1
    have k2 : w3.cell? ⟨w1.heap.size, 2, none⟩ = some (.int .i64 r.h) := blk_cell hx3 2
    have k3 : w3.cell? ⟨w1.heap.size, 3, none⟩ = some (.int .i64 r.id) := blk_cell hx3 3
    have k4 : w3.cell? ⟨w1.heap.size, 4, none⟩ = some (.slice sa r.kids.length sc) := blk_cell hx3 4
    have HB13 := Lib.hid hb13; have HX3 := Lib.hid hx3
    have HBW3 := Lib.hid (HB1.out.trans (hb13.mono HB1.out.size))
    clear hb13 hx3 hb2 hx2 hb3 o3 HI
    obtain ⟨hr1, hr2, hr3, hr4⟩ := hres.out
    by_cases hp : pane ∈ ids
    · have hct : ids.contains pane = true := by simpa using hp
      rw [hct] at hh
      have HH := Lib.hid hh; clear hh hct hr1
      by_cases hfz : freshF ids id = 0
      · rw [hfz] at hf
        have HF := Lib.hid hf
        have hC3 := HC.out w3 HB13.out
        have HC3 := Lib.hid hC3; have HS := Lib.hid hs.out; have HCB := Lib.hid hcb.out
        have hr3' := hr3 hp hfz; have hr4' := hr4 hp hfz
        have HP := Lib.hid hp
        clear hf hr2 hr3 hr4 hfz hp hC3
        generalize r.cellR pane = z at *
        by_cases hs3 : s < 3
        · have hres' := hr3' hs3
          subst hres'
          clear hr3' hr4' HU hcb hres
          go_wp2_with fail
          refine HH.out.mono ?_
          rintro e w' ⟨rfl, rfl⟩
          go_wp2_with fail
          refine HF.out.mono ?_
          rintro e w' ⟨rfl, rfl⟩
          go_wp2_with fail
          refine HC3.out.mono ?_
          rintro e w4 ⟨za, zn, zc, rfl, hb4⟩
          have hX := rext_any z.kind z.w z.h z.id (2 : Int) za zn zc w4
          rw [HS.out] at hX
          have HX := Lib.hid hX; have HB4 := Lib.hid hb4; clear hX hb4
          go_wp2_with fail
          refine HX.out.mono ?_
          rintro e w5 ⟨rfl, hb5⟩
          have HB5 := Lib.hid hb5; clear hb5
          go_wp2_with fail
          go_ret2
          exact list_post_none (HBW3.out.trans ((HB4.out.trans (HB5.out.mono HB4.out.size)).mono HBW3.out.size))
        · have hres' := hr4' hs3
          subst hres'
          have hbd := hcb.out HP.out (by omega)
          have HBD := Lib.hid hbd
          clear hr3' hr4' hcb hres hbd HCB
          go_wp2_with fail
          refine HH.out.mono ?_
          rintro e w' ⟨rfl, rfl⟩
          go_wp2_with fail
          refine HF.out.mono ?_
          rintro e w' ⟨rfl, rfl⟩
          go_wp2_with fail
          refine HC3.out.mono ?_
          rintro e w4 ⟨za, zn, zc, rfl, hb4⟩
          have hX := rext_any z.kind z.w z.h z.id (2 : Int) za zn zc w4
          rw [HS.out] at hX
          have HX := Lib.hid hX; have HB4 := Lib.hid hb4; clear hX hb4 k0 k1 k2 k3 k4
          go_wp2_with fail
          refine HX.out.mono ?_
          rintro e w5 ⟨rfl, hb5⟩
          have hb35 : Below w3.heap.size w3 w5 := HB4.out.trans (hb5.mono HB4.out.size)
          have hb15 : Below w1.heap.size w1 w5 := HB13.out.trans (hb35.mono HB13.out.size)
          have hU5 := HU.out w5 hb15
          have hx5 := blk_below HX3.out hb35
          have k0 : w5.cell? ⟨w1.heap.size, 0, none⟩ = some (.int .i64 r.kind) := blk_cell hx5 0
          have k1 : w5.cell? ⟨w1.heap.size, 1, none⟩ = some (.int .i64 r.w) := blk_cell hx5 1
          have k2 : w5.cell? ⟨w1.heap.size, 2, none⟩ = some (.int .i64 r.h) := blk_cell hx5 2
          have k3 : w5.cell? ⟨w1.heap.size, 3, none⟩ = some (.int .i64 r.id) := blk_cell hx5 3
          have k4 : w5.cell? ⟨w1.heap.size, 4, none⟩ = some (.slice sa r.kids.length sc) := blk_cell hx5 4
          have HU5 := Lib.hid hU5; have HBW5 := Lib.hid (HBW3.out.trans (hb35.mono HBW3.out.size))
          clear hb5 hb35 hb15 hU5 hx5 HU HX HC3 HF HH
          generalize hcr : r.cutR pane (2 : Int) size before id = cr at *
          have HCR := Lib.hid hcr; clear hcr
          go_wp2_with fail
          refine HU5.out.mono ?_
          rintro e w6 ⟨ca, cc, rfl, hck, hb6⟩
          have hLs := rlist_any cr (.agg #[.int .i64 cr.kind, .int .i64 cr.w, .int .i64 cr.h, .int .i64 cr.id, .slice ca cr.kids.length cc]) w6 ⟨_, rfl, hck.nk⟩ HBD.out.2 HBD.out.1
          have HLS := Lib.hid hLs; have HBW6 := Lib.hid (HBW5.out.trans (hb6.mono HBW5.out.size))
          clear hLs hb6 hck HU5
          go_wp2_with fail
          refine HLS.out.mono ?_
          rintro e w7 ⟨u7, rfl, o7, hb7⟩
          have HO7 := Lib.hid o7; have HB7 := Lib.hid hb7; clear o7 hb7
          go_wp2_with fail
          go_ret2
          have o := HO7.out
          rw [← HCR.out] at o
          exact ⟨u7, rfl, ownsRow_mono' o HBW6.out.size, HBW6.out.trans (HB7.out.mono HBW6.out.size)⟩
      · have hres' := hr2 hp hfz
        clear hr2 hr3 hr4 hp HC HU hcb hres
        generalize freshF ids id = f at *
        subst hres'
        have HF := Lib.hid hf; clear hf
        have hf0 : (f != 0) = true := by simpa using hfz
        go_wp2_with fail
        refine HH.out.mono ?_
        rintro e w' ⟨rfl, rfl⟩
        go_wp2_with fail
        refine HF.out.mono ?_
        rintro e w' ⟨rfl, rfl⟩
        go_wp2_with fail
        go_ret2
        exact list_post_none HBW3.out
    · have hct : ids.contains pane = false := by simpa using hp
      rw [hct] at hh
      have hres' := hr1 hp
      subst hres'
      have HH := Lib.hid hh; clear hh hct hr1 hr2 hr3 hr4 hp hf HC HU hcb hres
      go_wp2_with fail
      refine HH.out.mono ?_
      rintro e w' ⟨rfl, rfl⟩
      go_wp2_with fail
      go_ret2
      exact list_post_none HBW3.out

set_option maxRecDepth 100000 in
set_option maxHeartbeats 0 in
theorem rsplit_some3 (v : Value) (l : List Cl) (pane size : Int) (before : Bool) (id : Int) (w : World) (h : Reads w v l) (r : R) (ids : List Int) (hids : Hid (r.ids = ids)) (hr : readF l = some r) (s : Int) (res : List Cl × Int)
    (hs : Hid (ext (3 : Int) (r.cellR pane).w (r.cellR pane).h = s)) (hres : Hid (SplitRest ids pane id s res ((r.cutR pane (3 : Int) size before id).lay 0 0 0))) (hcb : Hid (pane ∈ ids → ¬ s < 3 → (r.cutR pane (3 : Int) size before id).Bd 0 1000 ∧ (r.cutR pane (3 : Int) size before id).cnt ≤ 1000)) :
    Calls Try.prog 27 #[v, .int .i64 pane, .int .i64 (3 : Int), .int .i64 size, .bool before, .int .i64 id] w fun e w' => ListPost w res e w' := by
  have hk : (3 : Int) = 2 ∨ (3 : Int) = 3 := by decide
  have HT := tree_any v l w h
  rw [hr] at HT
  have RI := read_is hr
  have hrl := RI.len
  have hrc := RI.cnt
  have hok := ((readF_iff l r).1 hr).2.1
  have hidl := ids_cnt r
  rw [hids.out] at hidl
  have hdc := depth_cnt r
  have HT := Lib.hid HT; have HOK := Lib.hid hok
  clear RI h hr hok hk
  next =>
    go_enter Try.func27, Try.ntmps27
    go_wp2_with fail
    refine HT.out.mono ?_
    rintro e w1 ⟨hb1, sa, sc, rfl, hkk⟩
    have hrep : NRep w1 (.agg #[.int .i64 r.kind, .int .i64 r.w, .int .i64 r.h, .int .i64 r.id, .slice sa r.kids.length sc]) r := ⟨_, rfl, hkk.nk⟩
    have hI : ∀ W, Below w1.heap.size w1 W → Calls Try.prog 79 #[.agg #[.int .i64 r.kind, .int .i64 r.w, .int .i64 r.h, .int .i64 r.id, .slice sa r.kids.length sc]] W fun e w' => IntsPost W ids e w' := by
      intro W hW
      have := rids_any _ r _ W (Nat.le_refl _) (hrep.below hW) (by omega)
      rwa [hids.out] at this
    have hC : ∀ W, Below w1.heap.size w1 W → Calls Try.prog 83 #[.agg #[.int .i64 r.kind, .int .i64 r.w, .int .i64 r.h, .int .i64 r.id, .slice sa r.kids.length sc], .int .i64 pane] W fun e w' => CellPost W (r.cellR pane) e w' := fun W hW => rcell_any _ r pane _ W (Nat.le_refl _) (hrep.below hW) (by omega)
    have hU : ∀ W, Below w1.heap.size w1 W → Calls Try.prog 84 #[.agg #[.int .i64 r.kind, .int .i64 r.w, .int .i64 r.h, .int .i64 r.id, .slice sa r.kids.length sc], .int .i64 pane, .int .i64 (3 : Int), .int .i64 size, .bool before, .int .i64 id] W fun e w' => NodePost W (fun b => b < w1.heap.size) (r.cutR pane (3 : Int) size before id) e w' := fun W hW =>
      rcut_any _ r (fun b => b < w1.heap.size) pane (3 : Int) size before id sa r.kids.length sc W (Nat.le_refl _) HOK.out (by omega) rfl (hkk.upd (fun b hb => hb.2) (fun b hb => hW.block b hb.2)) (fun b hb => Nat.lt_of_lt_of_le hb hW.size) (by decide)
    have HI := Lib.hid hI; have HC := Lib.hid hC; have HU := Lib.hid hU; have HB1 := Lib.hid hb1
    clear hI hC hU hb1 hkk hrep HT
    have hx2 := heap_alloc_new w1 (.cells #[.int .i64 r.kind, .int .i64 r.w, .int .i64 r.h, .int .i64 r.id, .slice sa r.kids.length sc] 88)
    have hb2 : Below w1.heap.size w1 (w1.alloc (.cells #[.int .i64 r.kind, .int .i64 r.w, .int .i64 r.h, .int .i64 r.id, .slice sa r.kids.length sc] 88)) := (Below.refl _ _).alloc (Nat.le_refl _) _
    go_wp2_with fail
    refine (HI.out _ hb2).mono ?_
    rintro e w3 ⟨v3, rfl, o3, hb3⟩
    have hb13 : Below w1.heap.size w1 w3 := hb2.trans (hb3.mono hb2.size)
    have hx3 := blk_below hx2 hb3
    obtain ⟨va, vc, hv3⟩ := own_slice o3
    subst hv3
    have hh := has_any _ ids pane w3 (reads1_of_owns o3) (by omega)
    have hf := rfresh_any _ ids id w3 (reads1_of_owns o3) (by omega)
    have k0 : w3.cell? ⟨w1.heap.size, 0, none⟩ = some (.int .i64 r.kind) := blk_cell hx3 0
    have k1 : w3.cell? ⟨w1.heap.size, 1, none⟩ = some (.int .i64 r.w) := blk_cell hx3 1
    have k2 : w3.cell? ⟨w1.heap.size, 2, none⟩ = some (.int .i64 r.h) := blk_cell hx3 2
    have k3 : w3.cell? ⟨w1.heap.size, 3, none⟩ = some (.int .i64 r.id) := blk_cell hx3 3
    have k4 : w3.cell? ⟨w1.heap.size, 4, none⟩ = some (.slice sa r.kids.length sc) := blk_cell hx3 4
    have HB13 := Lib.hid hb13; have HX3 := Lib.hid hx3
    have HBW3 := Lib.hid (HB1.out.trans (hb13.mono HB1.out.size))
    clear hb13 hx3 hb2 hx2 hb3 o3 HI
    obtain ⟨hr1, hr2, hr3, hr4⟩ := hres.out
    by_cases hp : pane ∈ ids
    · have hct : ids.contains pane = true := by simpa using hp
      rw [hct] at hh
      have HH := Lib.hid hh; clear hh hct hr1
      by_cases hfz : freshF ids id = 0
      · rw [hfz] at hf
        have HF := Lib.hid hf
        have hC3 := HC.out w3 HB13.out
        have HC3 := Lib.hid hC3; have HS := Lib.hid hs.out; have HCB := Lib.hid hcb.out
        have hr3' := hr3 hp hfz; have hr4' := hr4 hp hfz
        have HP := Lib.hid hp
        clear hf hr2 hr3 hr4 hfz hp hC3
        generalize r.cellR pane = z at *
        by_cases hs3 : s < 3
        · have hres' := hr3' hs3
          subst hres'
          clear hr3' hr4' HU hcb hres
          go_wp2_with fail
          refine HH.out.mono ?_
          rintro e w' ⟨rfl, rfl⟩
          go_wp2_with fail
          refine HF.out.mono ?_
          rintro e w' ⟨rfl, rfl⟩
          go_wp2_with fail
          refine HC3.out.mono ?_
          rintro e w4 ⟨za, zn, zc, rfl, hb4⟩
          have hX := rext_any z.kind z.w z.h z.id (3 : Int) za zn zc w4
          rw [HS.out] at hX
          have HX := Lib.hid hX; have HB4 := Lib.hid hb4; clear hX hb4
          go_wp2_with fail
          refine HX.out.mono ?_
          rintro e w5 ⟨rfl, hb5⟩
          have HB5 := Lib.hid hb5; clear hb5
          go_wp2_with fail
          go_ret2
          exact list_post_none (HBW3.out.trans ((HB4.out.trans (HB5.out.mono HB4.out.size)).mono HBW3.out.size))
        · have hres' := hr4' hs3
          subst hres'
          have hbd := hcb.out HP.out (by omega)
          have HBD := Lib.hid hbd
          clear hr3' hr4' hcb hres hbd HCB
          go_wp2_with fail
          refine HH.out.mono ?_
          rintro e w' ⟨rfl, rfl⟩
          go_wp2_with fail
          refine HF.out.mono ?_
          rintro e w' ⟨rfl, rfl⟩
          go_wp2_with fail
          refine HC3.out.mono ?_
          rintro e w4 ⟨za, zn, zc, rfl, hb4⟩
          have hX := rext_any z.kind z.w z.h z.id (3 : Int) za zn zc w4
          rw [HS.out] at hX
          have HX := Lib.hid hX; have HB4 := Lib.hid hb4; clear hX hb4 k0 k1 k2 k3 k4
          go_wp2_with fail
          refine HX.out.mono ?_
          rintro e w5 ⟨rfl, hb5⟩
          have hb35 : Below w3.heap.size w3 w5 := HB4.out.trans (hb5.mono HB4.out.size)
          have hb15 : Below w1.heap.size w1 w5 := HB13.out.trans (hb35.mono HB13.out.size)
          have hU5 := HU.out w5 hb15
          have hx5 := blk_below HX3.out hb35
          have k0 : w5.cell? ⟨w1.heap.size, 0, none⟩ = some (.int .i64 r.kind) := blk_cell hx5 0
          have k1 : w5.cell? ⟨w1.heap.size, 1, none⟩ = some (.int .i64 r.w) := blk_cell hx5 1
          have k2 : w5.cell? ⟨w1.heap.size, 2, none⟩ = some (.int .i64 r.h) := blk_cell hx5 2
          have k3 : w5.cell? ⟨w1.heap.size, 3, none⟩ = some (.int .i64 r.id) := blk_cell hx5 3
          have k4 : w5.cell? ⟨w1.heap.size, 4, none⟩ = some (.slice sa r.kids.length sc) := blk_cell hx5 4
          have HU5 := Lib.hid hU5; have HBW5 := Lib.hid (HBW3.out.trans (hb35.mono HBW3.out.size))
          clear hb5 hb35 hb15 hU5 hx5 HU HX HC3 HF HH
          generalize hcr : r.cutR pane (3 : Int) size before id = cr at *
          have HCR := Lib.hid hcr; clear hcr
          go_wp2_with fail
          refine HU5.out.mono ?_
          rintro e w6 ⟨ca, cc, rfl, hck, hb6⟩
          have hLs := rlist_any cr (.agg #[.int .i64 cr.kind, .int .i64 cr.w, .int .i64 cr.h, .int .i64 cr.id, .slice ca cr.kids.length cc]) w6 ⟨_, rfl, hck.nk⟩ HBD.out.2 HBD.out.1
          have HLS := Lib.hid hLs; have HBW6 := Lib.hid (HBW5.out.trans (hb6.mono HBW5.out.size))
          clear hLs hb6 hck HU5
          go_wp2_with fail
          refine HLS.out.mono ?_
          rintro e w7 ⟨u7, rfl, o7, hb7⟩
          have HO7 := Lib.hid o7; have HB7 := Lib.hid hb7; clear o7 hb7
          go_wp2_with fail
          go_ret2
          have o := HO7.out
          rw [← HCR.out] at o
          exact ⟨u7, rfl, ownsRow_mono' o HBW6.out.size, HBW6.out.trans (HB7.out.mono HBW6.out.size)⟩
      · have hres' := hr2 hp hfz
        clear hr2 hr3 hr4 hp HC HU hcb hres
        generalize freshF ids id = f at *
        subst hres'
        have HF := Lib.hid hf; clear hf
        have hf0 : (f != 0) = true := by simpa using hfz
        go_wp2_with fail
        refine HH.out.mono ?_
        rintro e w' ⟨rfl, rfl⟩
        go_wp2_with fail
        refine HF.out.mono ?_
        rintro e w' ⟨rfl, rfl⟩
        go_wp2_with fail
        go_ret2
        exact list_post_none HBW3.out
    · have hct : ids.contains pane = false := by simpa using hp
      rw [hct] at hh
      have hres' := hr1 hp
      subst hres'
      have HH := Lib.hid hh; clear hh hct hr1 hr2 hr3 hr4 hp hf HC HU hcb hres
      go_wp2_with fail
      refine HH.out.mono ?_
      rintro e w' ⟨rfl, rfl⟩
      go_wp2_with fail
      go_ret2
      exact list_post_none HBW3.out

theorem rsplit_some (v : Value) (l : List Cl) (pane kind size : Int) (before : Bool) (id : Int) (w : World) (h : Reads w v l) (r : R) (ids : List Int) (hids : Hid (r.ids = ids)) (hr : readF l = some r) (hk : kind = 2 ∨ kind = 3) (s : Int) (res : List Cl × Int)
    (hs : Hid (ext kind (r.cellR pane).w (r.cellR pane).h = s)) (hres : Hid (SplitRest ids pane id s res ((r.cutR pane kind size before id).lay 0 0 0))) (hcb : Hid (pane ∈ ids → ¬ s < 3 → (r.cutR pane kind size before id).Bd 0 1000 ∧ (r.cutR pane kind size before id).cnt ≤ 1000)) :
    Calls Try.prog 27 #[v, .int .i64 pane, .int .i64 kind, .int .i64 size, .bool before, .int .i64 id] w fun e w' => ListPost w res e w' := by
  rcases hk with rfl | rfl
  · exact rsplit_some2 v l pane size before id w h r ids hids hr s res hs hres hcb
  · exact rsplit_some3 v l pane size before id w h r ids hids hr s res hs hres hcb

theorem rsplit_any (v : Value) (l : List Cl) (pane kind size : Int) (before : Bool) (id : Int) (w : World) (h : Reads w v l) :
    Calls Try.prog 27 #[v, .int .i64 pane, .int .i64 kind, .int .i64 size, .bool before, .int .i64 id] w fun e w' => ListPost w (splitF l pane kind size before id) e w' := by
  unfold splitF
  cases hr : readF l with
  | none => exact rsplit_40 v l pane kind size before id w h hr
  | some r =>
    simp only []
    obtain ⟨hlay, hok, hnd, h32⟩ := (readF_iff l r).1 hr
    have RI := read_is hr
    by_cases hk : kindB kind = false
    · rw [if_pos hk]; exact rsplit_1 v l pane kind size before id w h r hr hk
    · rw [if_neg hk]
      have hk' : kindB kind = true := by simpa using hk
      have hk23 := (kindB_iff kind).1 hk'
      cases hq : r.find pane with
      | none =>
        simp only []
        have hp : pane ∉ r.ids := fun hm => by
          have := (find_ids pane r).2 hm
          rw [hq] at this
          cases this
        exact rsplit_some v l pane kind size before id w h r r.ids rfl hr hk23 _ _ rfl (Lib.hid ⟨fun _ => rfl, fun hm => absurd hm hp, fun hm => absurd hm hp, fun hm => absurd hm hp⟩) (Lib.hid fun hm => absurd hm hp)
      | some q =>
        have hp : pane ∈ r.ids := (find_ids pane r).1 (by rw [hq]; rfl)
        obtain ⟨W, H, kids, hat⟩ := find_at pane q r hq
        have hks : kids = [] := by
          have := R.at_ok q r _ hat hok
          simp only [R.ok] at this
          rcases this.2 with ⟨_, h, _⟩ | ⟨h, _⟩
          · exact h
          · omega
        subst hks
        have hcell := cell_law pane W H q r hok hnd hq hat
        have hcut := cut_law pane kind size before id hk23 W H q r hok hnd hq hat
        simp only [hat, R.w, R.h]
        refine rsplit_some v l pane kind size before id w h r r.ids rfl hr hk23 (ext kind W H) _ (Lib.hid (by rw [hcell]; rfl)) (Lib.hid ⟨fun hm => absurd hp hm, fun _ hf => ?_, fun _ hf hs => ?_, fun _ hf hs => ?_⟩) (Lib.hid fun _ hs => ?_)
        · rw [if_pos hf]
        · rw [if_neg (by simpa using hf)]; exact if_pos hs
        · rw [if_neg (by simpa using hf)]; exact (if_neg hs).trans (by rw [hcut])
        · have hWH := R.at_bd q r _ hat RI.bd
          simp only [R.Bd] at hWH
          have hN := splitN_bd (size := size) (s := ext kind W H) (by omega)
          have hs1000 : ext kind W H ≤ 1000 := by unfold ext; split <;> omega
          have hcp := cutPair_bd (before := before) (id := id) (p := pane) hk23 (by omega) (by omega) hN
          have := cutAt_ok kind (cutPair kind (splitN (ext kind W H) size) before id W H pane) W H (by omega) (by omega) hcp.1 hcp.2 q r (RI.bd.mono (by omega) (by omega))
          rw [hcut]
          have hlen := RI.len
          have hcn := RI.cnt
          exact ⟨this.1, by omega⟩

end Go.Proofs.Ytpehceccnjdfeaa
end
