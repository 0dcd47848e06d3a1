/- Rows written over: the memory's side. -/
import Derived.Test.YtpehceccnjdfeaaC5
import Derived.Laws.IdiomCopy
namespace Go.Proofs.Ytpehceccnjdfeaa
open Go.RowKit

theorem blk_sets {b : Nat} {t : TypeId} : ∀ (vs : List Value) (o : Nat) (w : World) (cs : Array Value), w.heap[b]? = some (.cells cs t (0, 0)) → o + vs.length ≤ cs.size →
    ∃ cs', (w.setCells b o vs).heap[b]? = some (.cells cs' t (0, 0)) ∧ cs'.size = cs.size ∧ (∀ j v, vs[j]? = some v → cs'[o + j]? = some v) ∧ (∀ k, k < o ∨ o + vs.length ≤ k → cs'[k]? = cs[k]?)
  | [], o, w, cs, h, _ => ⟨cs, h, rfl, fun j v hv => by simp at hv, fun _ _ => rfl⟩
  | v :: r, o, w, cs, h, hl => by
    simp only [List.length_cons] at hl
    obtain ⟨cs', h1, h2, h3, h4⟩ := blk_sets r (o + 1) _ _ (blk_set h o v) (by simp; omega)
    refine ⟨cs', h1, by rw [h2]; simp, fun j u hu => ?_, fun k hk => ?_⟩
    · cases j with
      | zero =>
        simp at hu; subst hu
        rw [Nat.add_zero, h4 o (by omega), Array.getElem?_setIfInBounds_self_of_lt (by omega)]
      | succ j =>
        have := h3 j u (by simpa using hu)
        rwa [show o + 1 + j = o + (j + 1) by omega] at this
    · simp only [List.length_cons] at hk
      rw [h4 k (by omega)]
      rw [Array.getElem?_setIfInBounds_ne (by omega)]

theorem upd_sets {S : Nat → Prop} {w0 : World} (b : Nat) (hb : b < w0.heap.size → S b) : ∀ (vs : List Value) (o : Nat) (w : World), Upd S w0 w → Upd S w0 (w.setCells b o vs)
  | [], _, _, h => h
  | v :: r, o, w, h => upd_sets b hb r (o + 1) _ (h.setCell _ _ hb)

theorem Row.of {w : World} {g off cap : Nat} {cs : Array Value} {vs : List Value} (h1 : w.heap[g]? = some (.cells cs 90 (0, 0))) (h2 : off + cap ≤ cs.size) (h3 : vs.length ≤ cap) (h4 : ∀ j v, vs[j]? = some v → cs[off + j]? = some v) : Row w g off cap vs := by
  refine ⟨cs, h1, h2, h3, ?_⟩
  apply List.ext_getElem?
  intro j
  rw [List.getElem?_take]
  by_cases hj : j < vs.length
  · rw [if_pos hj, List.getElem?_drop]
    have := h4 j vs[j] (List.getElem?_eq_getElem hj)
    rw [List.getElem?_eq_getElem hj, ← this]
    simp
  · rw [if_neg hj, List.getElem?_eq_none (by omega)]

theorem Row.open {w : World} {g off cap : Nat} {vs : List Value} (h : Row w g off cap vs) : ∃ cs : Array Value, w.heap[g]? = some (.cells cs 90 (0, 0)) ∧ off + cap ≤ cs.size ∧ vs.length ≤ cap ∧ ∀ j v, vs[j]? = some v → cs[off + j]? = some v := by
  obtain ⟨cs, h1, h2, h3, h4⟩ := h
  refine ⟨cs, h1, h2, h3, fun j v hv => ?_⟩
  have hj := (List.getElem?_eq_some_iff.1 hv).1
  rw [← h4, List.getElem?_take, if_pos hj, List.getElem?_drop] at hv
  simpa using hv

/-- What slices.Replace of one element leaves. -/
def ReplPost (w : World) (a n m i : Nat) (xs vs : List Value) (e : Ending) (w' : World) : Prop :=
  ∃ g off cap, e = .returned (.slice (some ⟨g, off, none⟩) (n + m - 1) cap) ∧ Row w' g off cap (xs.take i ++ vs ++ xs.drop (i + 1)) ∧ (g = a ∨ w.heap.size ≤ g) ∧ Upd (fun k => k = a) w w'

theorem mid_len {xs vs : List Value} {n m i : Nat} (hn : xs.length = n) (hm : vs.length = m) (hi : i < n) : (xs.take i ++ vs ++ xs.drop (i + 1)).length = n + m - 1 := by
  simp [hn, hm]; omega

/-- Where each element of the new row comes from. -/
theorem mid_at {xs vs : List Value} {n m i : Nat} (hn : xs.length = n) (hm : vs.length = m) (hi : i < n) {j : Nat} {v : Value} (h : (xs.take i ++ vs ++ xs.drop (i + 1))[j]? = some v) :
    (j < i ∧ xs[j]? = some v) ∨ (∃ k, k < m ∧ j = i + k ∧ vs[k]? = some v) ∨ (∃ k, j = i + m + k ∧ (xs.drop (i + 1))[k]? = some v) := by
  have l1 : (xs.take i).length = i := by simp; omega
  by_cases h1 : j < i
  · left
    rw [List.append_assoc, List.getElem?_append_left (by omega), List.getElem?_take, if_pos h1] at h
    exact ⟨h1, h⟩
  · right
    rw [List.append_assoc, List.getElem?_append_right (by omega), l1] at h
    by_cases h2 : j - i < m
    · left
      rw [List.getElem?_append_left (by omega)] at h
      exact ⟨j - i, h2, by omega, h⟩
    · right
      rw [List.getElem?_append_right (by omega)] at h
      exact ⟨j - i - vs.length, by omega, h⟩

/-- In place. -/
theorem repl_in {w w1 w2 : World} {a off cap n m i : Nat} {xs vs : List Value} (hr : Row w a off cap xs) (hn : xs.length = n) (hm : vs.length = m) (hi : i < n) (hc : n + m - 1 ≤ cap)
    (h1 : w1.heap = w.heap) (h2 : w2.heap = w1.heap) (hu1 : Upd (fun k => k = a) w w1) (hos : w2.os = w1.os ∧ w2.tape = w1.tape ∧ w2.output = w1.output)
    {w3 : World} (h3 : w3 = (w1.setCells a (off + (i + m)) (xs.drop (i + 1))).setCells a (off + i) vs) : Row w3 a off cap (xs.take i ++ vs ++ xs.drop (i + 1)) ∧ Upd (fun k => k = a) w w3 := by
  subst h3
  obtain ⟨cs, c1, c2, c3, c4⟩ := hr.open
  have hd : (xs.drop (i + 1)).length = n - (i + 1) := by simp [hn]
  obtain ⟨d, d1, d2, d3, d4⟩ := blk_sets (xs.drop (i + 1)) (off + (i + m)) w1 cs (by rw [h1]; exact c1) (by omega)
  obtain ⟨e, e1, e2, e3, e4⟩ := blk_sets vs (off + i) _ d d1 (by omega)
  refine ⟨Row.of e1 (by omega) (by rw [mid_len hn hm hi]; exact hc) (fun j v hv => ?_), upd_sets (S := fun k => k = a) a (fun _ => rfl) _ _ _ (upd_sets (S := fun k => k = a) a (fun _ => rfl) _ _ _ hu1)⟩
  rcases mid_at hn hm hi hv with ⟨q1, q2⟩ | ⟨k, q1, rfl, q2⟩ | ⟨k, rfl, q2⟩
  · rw [e4 _ (by omega), d4 _ (by omega)]
    exact c4 j v q2
  · have := e3 k v q2
    rwa [Nat.add_assoc] at this
  · have hk := (List.getElem?_eq_some_iff.1 q2).1
    rw [e4 _ (by omega)]
    have := d3 k v q2
    rwa [Nat.add_assoc] at this

end Go.Proofs.Ytpehceccnjdfeaa
