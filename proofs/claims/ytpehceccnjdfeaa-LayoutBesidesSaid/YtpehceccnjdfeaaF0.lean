/- The reference's nodes in memory. -/
import Derived.Test.YtpehceccnjdfeaaA2
import Derived.Test.YtpehceccnjdfeaaE0
namespace Go.Proofs.Ytpehceccnjdfeaa
open Go.RowKit

/-- A node as a value: its children's slice last. -/
def nval (k w h i : Int) (s : Value) : Value := .agg #[.int .i64 k, .int .i64 w, .int .i64 h, .int .i64 i, s]
/-- The five cells of a node. -/
def nvals (r : R) (s : Value) : List Value := [.int .i64 r.kind, .int .i64 r.w, .int .i64 r.h, .int .i64 r.id, s]

mutual
/-- The slice of a node's children. -/
def NK (w : World) (s : Value) : R → Prop
  | .mk _ _ _ _ kids => ∃ a cap, s = .slice a kids.length cap ∧ kids.length ≤ cap ∧ cap ≤ maxLen ∧ (kids ≠ [] → ∃ b off, a = some ⟨b, off, none⟩ ∧ NL w b off 0 kids)
/-- Nodes that stand in a row. -/
def NL (w : World) (b off j : Nat) : List R → Prop
  | [] => True
  | r :: rs => (∃ s, (∀ c, c < 5 → w.cell? ⟨b, off + j * 5 + c, none⟩ = (nvals r s)[c]?) ∧ NK w s r) ∧ NL w b off (j + 1) rs
end

/-- A node's value. -/
def NRep (w : World) (v : Value) (r : R) : Prop := ∃ s, v = nval r.kind r.w r.h r.id s ∧ NK w s r

/-- A node's cells, somewhere in a block. -/
def NAt (w : World) (b o : Nat) (r : R) : Prop := ∃ s, (∀ c, c < 5 → w.cell? ⟨b, o + c, none⟩ = (nvals r s)[c]?) ∧ NK w s r

theorem NL_iff {w : World} {b off : Nat} : ∀ (l : List R) (j : Nat), NL w b off j l ↔ ∀ i r, l[i]? = some r → NAt w b (off + (j + i) * 5) r
  | [], j => by simp [NL]
  | r :: rs, j => by
    simp only [NL, NL_iff rs (j + 1)]
    constructor
    · rintro ⟨h1, h2⟩ i q hq
      cases i with
      | zero => simp only [List.getElem?_cons_zero, Option.some.injEq] at hq; subst hq; exact h1
      | succ i => rw [List.getElem?_cons_succ] at hq; have := h2 i q hq; rwa [show j + 1 + i = j + (i + 1) by omega] at this
    · intro h
      refine ⟨h 0 r rfl, fun i q hq => ?_⟩
      have := h (i + 1) q (by rw [List.getElem?_cons_succ]; exact hq)
      rwa [show j + (i + 1) = j + 1 + i by omega] at this

theorem cell_below {w w' : World} {p : Addr} {v : Value} (hb : Below w.heap.size w w') (h : w.cell? p = some v) : w'.cell? p = some v :=
  (hb.cell (World.block_lt_of_cell? w p h)).trans h

mutual
theorem NK.below {w w' : World} (hb : Below w.heap.size w w') : ∀ {r : R} {s : Value}, NK w s r → NK w' s r
  | .mk k W H i kids, s, h => by
    simp only [NK] at h ⊢
    obtain ⟨a, cap, h1, h2, h3, h4⟩ := h
    refine ⟨a, cap, h1, h2, h3, fun hne => ?_⟩
    obtain ⟨b, off, h5, h6⟩ := h4 hne
    exact ⟨b, off, h5, NL.below hb h6⟩
theorem NL.below {w w' : World} (hb : Below w.heap.size w w') : ∀ {l : List R} {b off j : Nat}, NL w b off j l → NL w' b off j l
  | [], _, _, _, _ => trivial
  | r :: rs, b, off, j, h => by
    simp only [NL] at h ⊢
    obtain ⟨⟨s, h1, h2⟩, h3⟩ := h
    refine ⟨⟨s, fun c hc => ?_, NK.below hb h2⟩, NL.below hb h3⟩
    rw [← h1 c hc]
    have : ∃ v, (nvals r s)[c]? = some v := ⟨(nvals r s)[c]'(by simpa [nvals] using hc), by simp⟩
    obtain ⟨v, hv⟩ := this
    rw [h1 c hc, hv]
    exact cell_below hb (by rw [h1 c hc, hv])
end
theorem NRep.below {w w' : World} {v : Value} {r : R} (h : NRep w v r) (hb : Below w.heap.size w w') : NRep w' v r := by
  obtain ⟨s, h1, h2⟩ := h; exact ⟨s, h1, h2.below hb⟩
theorem NAt.below {w w' : World} {b o : Nat} {r : R} (h : NAt w b o r) (hb : Below w.heap.size w w') : NAt w' b o r := by
  obtain ⟨s, h1, h2⟩ := h
  refine ⟨s, fun c hc => ?_, h2.below hb⟩
  obtain ⟨v, hv⟩ : ∃ v, (nvals r s)[c]? = some v := ⟨(nvals r s)[c]'(by simpa [nvals] using hc), by simp⟩
  rw [hv]; exact cell_below hb (by rw [h1 c hc, hv])

/-- A node's parts. -/
theorem NRep.open {w : World} {v : Value} {k W H i : Int} {kids : List R} (h : NRep w v (.mk k W H i kids)) : ∃ a cap, v = nval k W H i (.slice a kids.length cap) ∧ kids.length ≤ cap ∧ cap ≤ maxLen ∧
    (kids ≠ [] → ∃ b off, a = some ⟨b, off, none⟩ ∧ ∀ j r, kids[j]? = some r → NAt w b (off + j * 5) r) := by
  obtain ⟨s, rfl, h2⟩ := h
  simp only [NK] at h2
  obtain ⟨a, cap, rfl, h3, h4, h5⟩ := h2
  refine ⟨a, cap, rfl, h3, h4, fun hne => ?_⟩
  obtain ⟨b, off, h6, h7⟩ := h5 hne
  refine ⟨b, off, h6, fun j r hj => ?_⟩
  have := (NL_iff kids 0).1 h7 j r hj
  rwa [Nat.zero_add] at this

theorem NRep.of {w : World} {k W H i : Int} {kids : List R} {a : Option Addr} {cap : Nat} (h1 : kids.length ≤ cap) (h2 : cap ≤ maxLen) (h3 : kids ≠ [] → ∃ b off, a = some ⟨b, off, none⟩ ∧ ∀ j r, kids[j]? = some r → NAt w b (off + j * 5) r) :
    NRep w (nval k W H i (.slice a kids.length cap)) (.mk k W H i kids) := by
  refine ⟨_, rfl, ?_⟩
  simp only [NK]
  refine ⟨a, cap, rfl, h1, h2, fun hne => ?_⟩
  obtain ⟨b, off, h4, h5⟩ := h3 hne
  exact ⟨b, off, h4, (NL_iff kids 0).2 fun j r hj => by rw [Nat.zero_add]; exact h5 j r hj⟩

theorem NK.form {w : World} {s : Value} {r : R} (h : NK w s r) : ∃ a c, s = .slice a r.kids.length c := by
  cases r; simp only [NK] at h; obtain ⟨a, c, h, _⟩ := h; exact ⟨a, c, h⟩

/-- The value that is loaded of a node's cells. -/
theorem NAt.rep {w : World} {b o : Nat} {r : R} (h : NAt w b o r) : ∃ s, (∃ a c, s = .slice a r.kids.length c) ∧ NRep w (nval r.kind r.w r.h r.id s) r ∧ w.cell? ⟨b, o, none⟩ = some (.int .i64 r.kind) ∧ w.cell? ⟨b, o + 1, none⟩ = some (.int .i64 r.w) ∧
    w.cell? ⟨b, o + 2, none⟩ = some (.int .i64 r.h) ∧ w.cell? ⟨b, o + 3, none⟩ = some (.int .i64 r.id) ∧ w.cell? ⟨b, o + 4, none⟩ = some s := by
  obtain ⟨s, h1, h2⟩ := h
  exact ⟨s, h2.form, ⟨s, rfl, h2⟩, h1 0 (by omega), h1 1 (by omega), h1 2 (by omega), h1 3 (by omega), h1 4 (by omega)⟩

/-- A leaf's value. -/
theorem NRep.leaf (w : World) (k W H i : Int) : NRep w (nval k W H i (.slice none 0 0)) (.mk k W H i []) := NRep.of (Nat.le_refl _) (Nat.zero_le _) (fun h => absurd rfl h)

end Go.Proofs.Ytpehceccnjdfeaa
