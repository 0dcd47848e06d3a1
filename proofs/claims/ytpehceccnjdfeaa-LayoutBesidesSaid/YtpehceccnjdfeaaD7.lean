/- Split: plain bounds. -/
import Derived.Test.YtpehceccnjdfeaaD6
namespace Go.Proofs.Ytpehceccnjdfeaa
open Go.RowKit

theorem BdL_app {lo hi : Int} (l m : List R) : BdL lo hi (l ++ m) ↔ BdL lo hi l ∧ BdL lo hi m := by
  induction l with
  | nil => simp [BdL]
  | cons a l ih => simp [BdL, ih, and_assoc]
theorem BdL_iff {lo hi : Int} (l : List R) : BdL lo hi l ↔ ∀ r ∈ l, r.Bd lo hi := by
  induction l with
  | nil => simp [BdL]
  | cons a l ih => simp [BdL, ih]
theorem cntL_set : ∀ (l : List R) (i : Nat) (z z' : R), l[i]? = some z → cntL (l.set i z') + z.cnt = cntL l + z'.cnt
  | [], i, z, z', h => by simp at h
  | a :: l, 0, z, z', h => by
    simp at h; subst h
    simp only [List.set_cons_zero, cntL]; omega
  | a :: l, i + 1, z, z', h => by
    have := cntL_set l i z z' (by simpa using h)
    simp only [List.set_cons_succ, cntL]; omega
theorem cntL_take_drop (l : List R) (i : Nat) : cntL (l.take i) + cntL (l.drop (i + 1)) ≤ cntL l := by
  have h1 : cntL l = cntL (l.take i) + cntL (l.drop i) := by rw [← cntL_append, List.take_append_drop]
  have h2 : cntL (l.drop (i + 1)) ≤ cntL (l.drop i) := by
    cases h : l.drop i with
    | nil =>
      have : l.drop (i + 1) = [] := by rw [← List.drop_drop, h]; rfl
      rw [this]; simp [cntL]
    | cons a t =>
      have : l.drop (i + 1) = t := by rw [← List.drop_drop, h]; rfl
      rw [this]; simp [cntL]
  omega

theorem cutAt_ok (kind : Int) (pr : List R) (W H : Int) (h1 : 0 ≤ W ∧ W ≤ 1000) (h2 : 0 ≤ H ∧ H ≤ 1000) (hp : BdL 0 1000 pr) (hc : cntL pr = 2) : ∀ (q : List Nat) (r : R), r.Bd 0 1000 → (r.cutAt kind pr W H q).Bd 0 1000 ∧ (r.cutAt kind pr W H q).cnt ≤ r.cnt + 3
  | [], .mk k w h id kids, hb => by
    simp only [R.cutAt, R.Bd, R.cnt, hc]
    exact ⟨⟨h1.1, h1.2, h2.1, h2.2, hp⟩, by omega⟩
  | i :: q, .mk k w h id kids, hb => by
    simp only [R.Bd] at hb
    obtain ⟨b1, b2, b3, b4, b5⟩ := hb
    rw [BdL_iff] at b5
    simp only [R.cutAt]
    split
    · simp only [R.Bd, R.cnt, BdL_app, cntL_append, hc]
      refine ⟨⟨b1, b2, b3, b4, ⟨(BdL_iff _).2 fun r hr => b5 r (List.mem_of_mem_take hr), hp⟩, (BdL_iff _).2 fun r hr => b5 r (List.mem_of_mem_drop hr)⟩, ?_⟩
      have := cntL_take_drop kids i
      omega
    · cases hz : kids[i]? with
      | none =>
        simp only [R.Bd, R.cnt]
        exact ⟨⟨b1, b2, b3, b4, (BdL_iff _).2 b5⟩, by omega⟩
      | some z =>
        obtain ⟨c1, c2⟩ := cutAt_ok kind pr W H h1 h2 hp hc q z (b5 z (List.mem_of_getElem? hz))
        simp only [R.Bd, R.cnt]
        refine ⟨⟨b1, b2, b3, b4, (BdL_iff _).2 fun r hr => ?_⟩, ?_⟩
        · rcases List.mem_or_eq_of_mem_set hr with e | rfl
          · exact b5 r e
          · exact c1
        · have := cntL_set kids i z (z.cutAt kind pr W H q) hz
          omega
theorem R.at_bd {lo hi : Int} : ∀ (q : List Nat) (r s : R), r.at q = some s → r.Bd lo hi → s.Bd lo hi
  | [], r, s, h, hb => by rw [R.at_nil] at h; cases h; exact hb
  | i :: q, .mk k w h' id kids, s, h, hb => by
    simp only [R.at] at h
    simp only [R.Bd] at hb
    cases hz : kids[i]? with
    | none => rw [hz] at h; cases h
    | some z =>
      rw [hz] at h
      exact R.at_bd q z s h ((BdL_iff _).1 hb.2.2.2.2 z (List.mem_of_getElem? hz))

theorem splitN_bd {s size : Int} (h : 3 ≤ s) : 1 ≤ splitN s size ∧ splitN s size ≤ s - 2 := by
  unfold splitN
  split
  · have : (s - 1).tdiv 2 = (s - 1) / 2 := Int.tdiv_eq_ediv_of_nonneg (by omega)
    rw [this]; omega
  · omega

theorem cutPair_bd {kind n W H id p : Int} {before : Bool} (hk : kind = 2 ∨ kind = 3) (h1 : 1 ≤ W ∧ W ≤ 1000) (h2 : 1 ≤ H ∧ H ≤ 1000) (hn : 1 ≤ n ∧ n ≤ ext kind W H - 2) : BdL 0 1000 (cutPair kind n before id W H p) ∧ cntL (cutPair kind n before id W H p) = 2 := by
  unfold cutPair
  simp only [setExt_eq]
  have hx : (0 ≤ setW kind (ext kind W H - 1 - n) W ∧ setW kind (ext kind W H - 1 - n) W ≤ 1000) ∧ (0 ≤ setH kind (ext kind W H - 1 - n) H ∧ setH kind (ext kind W H - 1 - n) H ≤ 1000) ∧
    (0 ≤ setW kind n W ∧ setW kind n W ≤ 1000) ∧ (0 ≤ setH kind n H ∧ setH kind n H ≤ 1000) := by
    unfold setW setH ext at *
    rcases hk with rfl | rfl <;> simp at * <;> omega
  cases before
  · exact ⟨⟨⟨hx.1.1, hx.1.2, hx.2.1.1, hx.2.1.2, trivial⟩, ⟨hx.2.2.1.1, hx.2.2.1.2, hx.2.2.2.1, hx.2.2.2.2, trivial⟩, trivial⟩, rfl⟩
  · exact ⟨⟨⟨hx.2.2.1.1, hx.2.2.1.2, hx.2.2.2.1, hx.2.2.2.2, trivial⟩, ⟨hx.1.1, hx.1.2, hx.2.1.1, hx.2.1.2, trivial⟩, trivial⟩, rfl⟩

end Go.Proofs.Ytpehceccnjdfeaa
