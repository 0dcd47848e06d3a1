/- Index, Contains of numbers; fresh. -/
import Derived.Test.YtpehceccnjdfeaaC3
namespace Go.Proofs.Ytpehceccnjdfeaa
open Go.RowKit

/-- v can be read as a list of one-cell values. -/
def Reads1 (w : World) (v : Value) (l : List Value) : Prop :=
  ∃ a cap, v = .slice a l.length cap ∧ (0 < l.length → ∃ b off, a = some ⟨b, off, none⟩ ∧ ∀ i u, l[i]? = some u → w.cell? ⟨b, off + i, none⟩ = some u)

theorem reads1_of_owns {w : World} {B e n : Nat} {v : Value} {xs : List Value} (h : w.ownsRow B e 1 v n xs) : Reads1 w v xs := by
  have hl : xs.length = n := by have := h.1; omega
  rcases Nat.eq_zero_or_pos n with h0 | h0
  · obtain ⟨a, c, rfl⟩ := own_slice h
    exact ⟨a, c, by rw [hl], fun h => by omega⟩
  · obtain ⟨g, cap, rfl, _, _⟩ := h.form h0
    refine ⟨_, cap, by rw [hl], fun _ => ⟨g, 0, rfl, fun i u hu => ?_⟩⟩
    have hi := (List.getElem?_eq_some_iff.1 hu).1
    rw [Nat.zero_add, h.cellAt i (by omega)]; exact hu
theorem Reads1.below {w w' : World} {v : Value} {l : List Value} (h : Reads1 w v l) (hu : Below w.heap.size w w') : Reads1 w' v l := by
  obtain ⟨a, cap, h1, h4⟩ := h
  refine ⟨a, cap, h1, fun hl => ?_⟩
  obtain ⟨b, off, e, hc⟩ := h4 hl
  exact ⟨b, off, e, fun i u hi => (hu.cell (World.block_lt_of_cell? w _ (hc i u hi))).trans (hc i u hi)⟩

/-- The first place of a number; -1: none. -/
def ixF (l : List Int) (x : Int) : Int := if x ∈ l then (l.idxOf x : Nat) else -1

theorem ix_at {l : List Int} {x : Int} {j : Nat} (hn : x ∉ l.take j) (hj : l[j]? = some x) : ixF l x = (j : Int) := by
  have hm : x ∈ l := List.mem_of_getElem? hj
  have hlt := (List.getElem?_eq_some_iff.1 hj).1
  unfold ixF
  rw [if_pos hm]
  have h1 : l = l.take j ++ l.drop j := (List.take_append_drop j l).symm
  have h2 : l.drop j = x :: l.drop (j + 1) := by
    obtain ⟨hj, rfl⟩ := List.getElem?_eq_some_iff.1 hj
    rw [List.getElem_cons_drop]
  have h3 : l.idxOf x = j := by
    rw [h1, List.idxOf_append, if_neg hn, h2, List.idxOf_cons_self]
    simp; omega
  rw [h3]

set_option maxRecDepth 100000 in
theorem index86 (v : Value) (l : List Int) (x : Int) (w : World) (hr : Reads1 w v (ints l)) (hl : l.length ≤ 100000) : Calls Try.prog 86 #[v, .int .i64 x] w fun e w' => e = .returned (.int .i64 (ixF l x)) ∧ w = w' := by
  obtain ⟨a, cap, rfl, hc⟩ := hr
  have hlen : (ints l).length = l.length := by simp [ints]
  rw [hlen] at *
  generalize hn : l.length = n at *
  have HN := Lib.hid hn; have HC := Lib.hid hc
  clear hn hc hlen
  go_enter Try.func86, Try.ntmps86
  go_wp2_with fail
  go_loop [8] (fun i => ∃ j : Nat, j ≤ n ∧ i = .int .i64 j ∧ Hid (x ∉ l.take j)) (fun i => n - (intOf i).toNat)
  case atStart => exact ⟨0, Nat.zero_le _, rfl, by show _ ∉ _; simp⟩
  case round =>
    obtain ⟨j, hj, rfl, hx⟩ := hrel
    by_cases hlt : j < n
    · obtain ⟨p, hp⟩ : ∃ p, l[j]? = some p := ⟨l[j]'(by rw [HN.out]; exact hlt), by simp⟩
      obtain ⟨b, off, rfl, hcc⟩ := HC.out (by simp only [ints, List.length_map]; have := HN.out; omega)
      have c1 := hcc j (.int .i64 p) (by simp [ints, hp])
      have HP := Lib.hid hp; clear hp hcc
      go_wp2_with fail
      · have he : x = p := by simpa using ‹(x == p) = true›
        go_ret
        exact ⟨by rw [ix_at hx.out (by rw [he]; exact HP.out)]; rfl, rfl⟩
      · have he : ¬ x = p := by simpa using ‹(x == p) = false›
        refine ⟨⟨j + 1, hlt, num_succ j, ?_⟩, meas_lt hlt⟩
        show _ ∉ _
        rw [take_snoc' HP.out]
        simp only [List.mem_append, List.mem_singleton, not_or]
        exact ⟨hx.out, he⟩
    · go_wp2_with fail
      go_ret
      have := hx.out
      rw [List.take_of_length_le (by have := HN.out; omega)] at this
      exact ⟨by rw [ixF, if_neg this]; rfl, rfl⟩

set_option maxRecDepth 100000 in
theorem contains118 (v : Value) (l : List Int) (x : Int) (w : World) (hr : Reads1 w v (ints l)) (hl : l.length ≤ 100000) : Calls Try.prog 118 #[v, .int .i64 x] w fun e w' => e = .returned (.bool (l.contains x)) ∧ w = w' := by
  have H := index86 v l x w hr hl
  have HH := Lib.hid H; clear H hr
  go_enter Try.func118, Try.ntmps118
  go_wp2_with fail
  refine HH.out.mono ?_
  rintro e w' ⟨rfl, rfl⟩
  go_wp2_with fail
  go_ret
  refine ⟨?_, rfl⟩
  congr 2
  unfold ixF
  by_cases h : x ∈ l <;> simp [h]

/-- What speaks against one pane more. -/
def freshF (ids : List Int) (id : Int) : Int := if (!idB id) || ids.contains id then 43 else if 32 ≤ ids.length then 45 else 0

set_option maxRecDepth 100000 in
theorem fresh_any (a : A) (r : R) (x y id : Int) (w : World) (hr : Rep w a r) (hp : Pos w a r x y) (hf : r.Fed) (hc : r.cnt ≤ 1000) : Calls Try.prog 69 #[a.val, .int .i64 id] w fun e w' => e = .returned (.int .i64 (freshF r.ids id)) ∧ Below w.heap.size w w' := by
  have H := order_any a r x y w hr hp hf hc
  have hle := lvs_len a r hr
  have hlen := (lvs_ids hr hp).1
  have hids : r.ids.length ≤ 1000 := by omega
  clear hle hlen
  generalize a.val = v at *
  have HH := Lib.hid H; clear H hr hp hf
  generalize r.ids = l at *
  go_enter Try.func69, Try.ntmps69
  go_wp2_with fail
  refine HH.out.mono ?_
  rintro e w1 ⟨vl, rfl, o1, hb1⟩
  obtain ⟨la, lc, rfl⟩ := own_slice o1
  have hct := contains118 _ l id w1 (reads1_of_owns o1) (by omega)
  have HCT := Lib.hid hct; have HB1 := Lib.hid hb1
  clear hct o1 hb1
  generalize hm : l.length = m at *
  have HM := Lib.hid hm; clear hm
  by_cases hid : idB id = true
  · obtain ⟨p1, p2⟩ := (idB_iff id).1 hid
    by_cases hmem : l.contains id = true
    · rw [hmem] at HCT
      go_wp2_with (go_at_call 118; refine HCT.out.mono ?_; rintro e w' ⟨rfl, rfl⟩)
      go_ret
      exact ⟨by simp only [freshF, hid, hmem]; rfl, HB1.out⟩
    · have hmem2 : l.contains id = false := by simpa using hmem
      clear hmem
      rw [hmem2] at HCT
      have Hmem := Lib.hid hmem2; have Hid' := Lib.hid hid; clear hmem2 hid
      go_wp2_with (go_at_call 118; refine HCT.out.mono ?_; rintro e w' ⟨rfl, rfl⟩)
      · go_ret
        refine ⟨?_, HB1.out⟩
        have : 32 ≤ l.length := by have := HM.out; omega
        simp only [freshF, Hmem.out, Hid'.out, if_pos this]; rfl
      · go_ret
        refine ⟨?_, HB1.out⟩
        have : ¬ 32 ≤ l.length := by have := HM.out; omega
        simp only [freshF, Hmem.out, Hid'.out, if_neg this]; rfl
  · have hid2 : idB id = false := by simpa using hid
    have h4 : id < 1 ∨ ¬ id < 1 ∧ 4611686018427387904 < id := by rw [idB_iff] at hid; omega
    clear hid
    have HF : Hid (freshF l id = 43) := by show _ = _; simp only [freshF, hid2]; rfl
    clear hid2
    rcases h4 with q | ⟨q, q2⟩
    · go_wp2_with fail
      go_ret
      exact ⟨by rw [HF.out]; rfl, HB1.out⟩
    · go_wp2_with fail
      go_ret
      exact ⟨by rw [HF.out]; rfl, HB1.out⟩

end Go.Proofs.Ytpehceccnjdfeaa
