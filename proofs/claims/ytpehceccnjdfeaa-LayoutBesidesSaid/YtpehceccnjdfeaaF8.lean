/- The reference's nodes, and which blocks they lie in. -/
import Derived.Test.YtpehceccnjdfeaaF5
namespace Go.Proofs.Ytpehceccnjdfeaa
open Go.RowKit

mutual
/-- As NK; each block of it is one of S. -/
def NKS (S : Nat → Prop) (w : World) (s : Value) : R → Prop
  | .mk _ _ _ _ kids => ∃ a cap, s = .slice a kids.length cap ∧ kids.length ≤ cap ∧ cap ≤ maxLen ∧ (kids ≠ [] → ∃ b off, a = some ⟨b, off, none⟩ ∧ S b ∧ NLS S w b off 0 kids)
def NLS (S : Nat → Prop) (w : World) (b off j : Nat) : List R → Prop
  | [] => True
  | r :: rs => (∃ s, (∀ c, c < 5 → w.cell? ⟨b, off + j * 5 + c, none⟩ = (nvals r s)[c]?) ∧ NKS S w s r) ∧ NLS S w b off (j + 1) rs
end

def NRepS (S : Nat → Prop) (w : World) (v : Value) (r : R) : Prop := ∃ s, v = nval r.kind r.w r.h r.id s ∧ NKS S w s r
def NAtS (S : Nat → Prop) (w : World) (b o : Nat) (r : R) : Prop := ∃ s, (∀ c, c < 5 → w.cell? ⟨b, o + c, none⟩ = (nvals r s)[c]?) ∧ NKS S w s r

theorem NLS_iff {S : Nat → Prop} {w : World} {b off : Nat} : ∀ (l : List R) (j : Nat), NLS S w b off j l ↔ ∀ i r, l[i]? = some r → NAtS S w b (off + (j + i) * 5) r
  | [], j => by simp [NLS]
  | r :: rs, j => by
    simp only [NLS, NLS_iff rs (j + 1)]
    constructor
    · rintro ⟨h1, h2⟩ i q hq
      cases i with
      | zero => simp only [List.getElem?_cons_zero, Option.some.injEq] at hq; subst hq; exact h1
      | succ i => rw [List.getElem?_cons_succ] at hq; have := h2 i q hq; rwa [show j + 1 + i = j + (i + 1) by omega] at this
    · intro h
      refine ⟨h 0 r rfl, fun i q hq => ?_⟩
      have := h (i + 1) q (by rw [List.getElem?_cons_succ]; exact hq)
      rwa [show j + (i + 1) = j + 1 + i by omega] at this

mutual
theorem NKS.nk {S : Nat → Prop} {w : World} : ∀ {r : R} {s : Value}, NKS S w s r → NK w s r
  | .mk k W H i kids, s, h => by
    simp only [NKS] at h
    simp only [NK]
    obtain ⟨a, cap, h1, h2, h3, h4⟩ := h
    refine ⟨a, cap, h1, h2, h3, fun hne => ?_⟩
    obtain ⟨b, off, h5, _, h6⟩ := h4 hne
    exact ⟨b, off, h5, NLS.nl h6⟩
theorem NLS.nl {S : Nat → Prop} {w : World} : ∀ {l : List R} {b off j : Nat}, NLS S w b off j l → NL w b off j l
  | [], _, _, _, _ => trivial
  | r :: rs, b, off, j, h => by
    simp only [NLS] at h
    simp only [NL]
    obtain ⟨⟨s, h1, h2⟩, h3⟩ := h
    exact ⟨⟨s, h1, NKS.nk h2⟩, NLS.nl h3⟩
end
theorem NRepS.rep {S : Nat → Prop} {w : World} {v : Value} {r : R} (h : NRepS S w v r) : NRep w v r := by obtain ⟨s, h1, h2⟩ := h; exact ⟨s, h1, h2.nk⟩

mutual
theorem NK.nks {w : World} : ∀ {r : R} {s : Value}, NK w s r → NKS (fun b => b < w.heap.size) w s r
  | .mk k W H i kids, s, h => by
    simp only [NK] at h
    simp only [NKS]
    obtain ⟨a, cap, h1, h2, h3, h4⟩ := h
    refine ⟨a, cap, h1, h2, h3, fun hne => ?_⟩
    obtain ⟨b, off, h5, h6⟩ := h4 hne
    refine ⟨b, off, h5, ?_, NL.nls h6⟩
    cases kids with
    | nil => exact absurd rfl hne
    | cons r rs =>
      simp only [NL] at h6
      obtain ⟨⟨s, h7, _⟩, _⟩ := h6
      have := h7 0 (by omega)
      exact World.block_lt_of_cell? w ⟨b, off + 0 * 5 + 0, none⟩ (u := .int .i64 r.kind) (by rw [this]; rfl)
theorem NL.nls {w : World} : ∀ {l : List R} {b off j : Nat}, NL w b off j l → NLS (fun b => b < w.heap.size) w b off j l
  | [], _, _, _, _ => trivial
  | r :: rs, b, off, j, h => by
    simp only [NL] at h
    simp only [NLS]
    obtain ⟨⟨s, h1, h2⟩, h3⟩ := h
    exact ⟨⟨s, h1, NK.nks h2⟩, NL.nls h3⟩
end
theorem NRep.reps {w : World} {v : Value} {r : R} (h : NRep w v r) : NRepS (fun b => b < w.heap.size) w v r := by obtain ⟨s, h1, h2⟩ := h; exact ⟨s, h1, h2.nks⟩

mutual
theorem NKS.upd {S S' : Nat → Prop} {w w' : World} (hs : ∀ b, S b → S' b) (hw : ∀ b, S b → w'.heap[b]? = w.heap[b]?) : ∀ {r : R} {s : Value}, NKS S w s r → NKS S' w' s r
  | .mk k W H i kids, s, h => by
    simp only [NKS] at h ⊢
    obtain ⟨a, cap, h1, h2, h3, h4⟩ := h
    refine ⟨a, cap, h1, h2, h3, fun hne => ?_⟩
    obtain ⟨b, off, h5, h6, h7⟩ := h4 hne
    exact ⟨b, off, h5, hs b h6, NLS.upd hs hw h6 h7⟩
theorem NLS.upd {S S' : Nat → Prop} {w w' : World} (hs : ∀ b, S b → S' b) (hw : ∀ b, S b → w'.heap[b]? = w.heap[b]?) : ∀ {l : List R} {b off j : Nat}, S b → NLS S w b off j l → NLS S' w' b off j l
  | [], _, _, _, _, _ => trivial
  | r :: rs, b, off, j, hb, h => by
    simp only [NLS] at h ⊢
    obtain ⟨⟨s, h1, h2⟩, h3⟩ := h
    refine ⟨⟨s, fun c hc => ?_, NKS.upd hs hw h2⟩, NLS.upd hs hw hb h3⟩
    rw [← h1 c hc]
    exact World.cell?_of_block (w := w) (hw b hb)
end
theorem NRepS.upd {S S' : Nat → Prop} {w w' : World} {v : Value} {r : R} (h : NRepS S w v r) (hs : ∀ b, S b → S' b) (hw : ∀ b, S b → w'.heap[b]? = w.heap[b]?) : NRepS S' w' v r := by
  obtain ⟨s, h1, h2⟩ := h; exact ⟨s, h1, h2.upd hs hw⟩

theorem NRepS.open {S : Nat → Prop} {w : World} {v : Value} {k W H i : Int} {kids : List R} (h : NRepS S w v (.mk k W H i kids)) : ∃ a cap, v = nval k W H i (.slice a kids.length cap) ∧ kids.length ≤ cap ∧ cap ≤ maxLen ∧
    (kids ≠ [] → ∃ b off, a = some ⟨b, off, none⟩ ∧ S b ∧ ∀ j r, kids[j]? = some r → NAtS S w b (off + j * 5) r) := by
  obtain ⟨s, rfl, h2⟩ := h
  simp only [NKS] at h2
  obtain ⟨a, cap, rfl, h3, h4, h5⟩ := h2
  refine ⟨a, cap, rfl, h3, h4, fun hne => ?_⟩
  obtain ⟨b, off, h6, h8, h7⟩ := h5 hne
  refine ⟨b, off, h6, h8, fun j r hj => ?_⟩
  have := (NLS_iff kids 0).1 h7 j r hj
  rwa [Nat.zero_add] at this

theorem NRepS.of {S : Nat → Prop} {w : World} {k W H i : Int} {kids : List R} {a : Option Addr} {cap : Nat} (h1 : kids.length ≤ cap) (h2 : cap ≤ maxLen) (h3 : kids ≠ [] → ∃ b off, a = some ⟨b, off, none⟩ ∧ S b ∧ ∀ j r, kids[j]? = some r → NAtS S w b (off + j * 5) r) :
    NRepS S w (nval k W H i (.slice a kids.length cap)) (.mk k W H i kids) := by
  refine ⟨_, rfl, ?_⟩
  simp only [NKS]
  refine ⟨a, cap, rfl, h1, h2, fun hne => ?_⟩
  obtain ⟨b, off, h4, h6, h5⟩ := h3 hne
  exact ⟨b, off, h4, h6, (NLS_iff kids 0).2 fun j r hj => by rw [Nat.zero_add]; exact h5 j r hj⟩

theorem NAtS.rep {S : Nat → Prop} {w : World} {b o : Nat} {r : R} (h : NAtS S w b o r) : ∃ s, (∃ a c, s = .slice a r.kids.length c) ∧ NRepS S w (nval r.kind r.w r.h r.id s) r ∧ w.cell? ⟨b, o, none⟩ = some (.int .i64 r.kind) ∧ w.cell? ⟨b, o + 1, none⟩ = some (.int .i64 r.w) ∧
    w.cell? ⟨b, o + 2, none⟩ = some (.int .i64 r.h) ∧ w.cell? ⟨b, o + 3, none⟩ = some (.int .i64 r.id) ∧ w.cell? ⟨b, o + 4, none⟩ = some s := by
  obtain ⟨s, h1, h2⟩ := h
  exact ⟨s, h2.nk.form, ⟨s, rfl, h2⟩, h1 0 (by omega), h1 1 (by omega), h1 2 (by omega), h1 3 (by omega), h1 4 (by omega)⟩
theorem NRepS.leaf (S : Nat → Prop) (w : World) (k W H i : Int) : NRepS S w (nval k W H i (.slice none 0 0)) (.mk k W H i []) := NRepS.of (Nat.le_refl _) (Nat.zero_le _) (fun h => absurd rfl h)
theorem NRepS.form {S : Nat → Prop} {w : World} {v : Value} {r : R} (h : NRepS S w v r) : ∃ a c, v = .agg #[.int .i64 r.kind, .int .i64 r.w, .int .i64 r.h, .int .i64 r.id, .slice a r.kids.length c] := by
  obtain ⟨s, rfl, h2⟩ := h
  obtain ⟨a, c, rfl⟩ := h2.nk.form
  exact ⟨a, c, rfl⟩

/-! ### A row of nodes that a call is building -/
/-- The cells of a row of nodes: each with its children's slice. -/
def rowVals : List R → List Value → List Value
  | r :: rs, s :: ss => nvals r s ++ rowVals rs ss
  | _, _ => []
theorem rowVals_length : ∀ (rs : List R) (ss : List Value), ss.length = rs.length → (rowVals rs ss).length = rs.length * 5
  | [], [], _ => rfl
  | r :: rs, s :: ss, h => by
    simp only [rowVals, List.length_append, List.length_cons]
    rw [rowVals_length rs ss (by simpa using h)]
    simp [nvals]; omega
  | [], _ :: _, h => by simp at h
  | _ :: _, [], h => by simp at h
theorem rowVals_app : ∀ (rs : List R) (ss : List Value) (rs' : List R) (ss' : List Value), ss.length = rs.length → rowVals (rs ++ rs') (ss ++ ss') = rowVals rs ss ++ rowVals rs' ss'
  | [], [], _, _, _ => rfl
  | r :: rs, s :: ss, rs', ss', h => by
    simp only [List.cons_append, rowVals, List.append_assoc]
    rw [rowVals_app rs ss rs' ss' (by simpa using h)]
  | [], _ :: _, _, _, h => by simp at h
  | _ :: _, [], _, _, h => by simp at h
theorem rowVals_at : ∀ (rs : List R) (ss : List Value) (i : Nat) (r : R) (s : Value) (c : Nat), rs[i]? = some r → ss[i]? = some s → c < 5 → (rowVals rs ss)[i * 5 + c]? = (nvals r s)[c]?
  | r0 :: rs, s0 :: ss, 0, r, s, c, h1, h2, hc => by
    simp only [List.getElem?_cons_zero, Option.some.injEq] at h1 h2
    subst h1 h2
    simp only [rowVals, Nat.zero_mul, Nat.zero_add]
    rw [List.getElem?_append_left (by simpa [nvals] using hc)]
  | r0 :: rs, s0 :: ss, i + 1, r, s, c, h1, h2, hc => by
    rw [List.getElem?_cons_succ] at h1 h2
    simp only [rowVals]
    rw [List.getElem?_append_right (by simp [nvals]; omega), show (i + 1) * 5 + c - (nvals r0 s0).length = i * 5 + c by simp [nvals]; omega]
    exact rowVals_at rs ss i r s c h1 h2 hc
  | [], _, _, _, _, _, h1, _, _ => by simp at h1
  | _ :: _, [], _, _, _, _, _, h2, _ => by simp at h2
theorem rowVals_one {rs : List R} {ss : List Value} (h : ∀ s ∈ ss, s.oneCell' = true) : ∀ v ∈ rowVals rs ss, v.oneCell' = true := by
  induction rs generalizing ss with
  | nil => intro v hv; cases ss <;> simp [rowVals] at hv
  | cons r rs ih =>
    cases ss with
    | nil => intro v hv; simp [rowVals] at hv
    | cons s ss =>
      intro v hv
      simp only [rowVals, List.mem_append] at hv
      rcases hv with hv | hv
      · simp only [nvals, List.mem_cons, List.not_mem_nil, or_false] at hv
        rcases hv with rfl | rfl | rfl | rfl | rfl
        · rfl
        · rfl
        · rfl
        · rfl
        · exact h _ (by simp)
      · exact ih (fun s' hs' => h s' (by simp [hs'])) v hv

/-- A row of nodes of the call's own: none of the nodes' own blocks is the row's. -/
def NOwn (w : World) (B : Nat) (S : Nat → Prop) (v : Value) (rs : List R) : Prop :=
  ∃ ss : List Value, ss.length = rs.length ∧ w.ownsRow B 88 5 v rs.length (rowVals rs ss) ∧ ∀ (i : Nat) (r : R) (s : Value), rs[i]? = some r → ss[i]? = some s → NKS (fun b => S b ∧ v.ownBlock ≠ some b) w s r

theorem NOwn.nil (w : World) (B : Nat) (S : Nat → Prop) : NOwn w B S (.slice none 0 0) [] := ⟨[], rfl, by simpa [rowVals] using World.ownsRow_nil w B 88 5, by simp⟩

theorem NOwn.slice {w : World} {B : Nat} {S : Nat → Prop} {v : Value} {rs : List R} (h : NOwn w B S v rs) : ∃ a c, v = .slice a rs.length c := by
  obtain ⟨ss, _, h, _⟩ := h
  exact own_slice h

/-- The node over the row. -/
theorem NOwn.node {w : World} {B : Nat} {S S' : Nat → Prop} {v : Value} {rs : List R} (h : NOwn w B S v rs) (k W H i : Int) (hs : ∀ b, S b → S' b) (hv : ∀ b, v.ownBlock = some b → S' b) : NRepS S' w (nval k W H i v) (.mk k W H i rs) := by
  obtain ⟨ss, h1, h2, h3⟩ := h
  rcases Nat.eq_zero_or_pos rs.length with h0 | h0
  · have : rs = [] := List.eq_nil_of_length_eq_zero h0
    subst this
    rcases h2.2 with ⟨rfl, _⟩ | ⟨g, cap, cur, rfl, _, _, e1, e2, _⟩
    · exact NRepS.of (Nat.le_refl _) (Nat.zero_le _) (fun h => absurd rfl h)
    · exact NRepS.of e1 e2 (fun h => absurd rfl h)
  · obtain ⟨g, cap, rfl, _, _⟩ := h2.form h0
    have hcap : rs.length ≤ cap ∧ cap ≤ maxLen := by
      rcases h2.2 with ⟨e, _⟩ | ⟨g', cap', cur, e, _, _, e1, e2, _⟩
      · cases e
      · simp only [Value.slice.injEq] at e
        obtain ⟨_, _, rfl⟩ := e
        exact ⟨e1, e2⟩
    refine NRepS.of hcap.1 hcap.2 fun _ => ⟨g, 0, rfl, hv g rfl, fun j r hj => ?_⟩
    have hjl := (List.getElem?_eq_some_iff.1 hj).1
    obtain ⟨s, hs2⟩ : ∃ s, ss[j]? = some s := ⟨ss[j]'(by omega), by simp⟩
    refine ⟨s, fun c hc => ?_, (h3 j r s hj hs2).upd (fun b hb => hs b hb.1) (fun _ _ => rfl)⟩
    rw [Nat.zero_add, h2.cellAt (j * 5 + c) (by omega), rowVals_at rs ss j r s c hj hs2 hc]

/-- A call that leaves the row alone. -/
theorem NOwn.upd {w w' : World} {B : Nat} {S S' U : Nat → Prop} {v : Value} {rs : List R} (h : NOwn w B S v rs) (hu : Upd U w w') (hS : ∀ b, S b → v.ownBlock ≠ some b → b < w.heap.size ∧ ¬ U b) (hs : ∀ b, S b → S' b) (hv : ∀ b, v.ownBlock = some b → ¬ U b) : NOwn w' B S' v rs := by
  obtain ⟨ss, h1, h2, h3⟩ := h
  refine ⟨ss, h1, ownsRow_upd h2 hu hv, fun i r s hr hsi => (h3 i r s hr hsi).upd (fun b hb => ⟨hs b hb.1, hb.2⟩) (fun b hb => ?_)⟩
  obtain ⟨x1, x2⟩ := hS b hb.1 hb.2
  exact hu.block b x1 x2

end Go.Proofs.Ytpehceccnjdfeaa
