/- A child of a cell that is cut, replaced by some; what read's trees are like; Split, plain. -/
import Derived.Test.YtpehceccnjdfeaaD3
namespace Go.Proofs.Ytpehceccnjdfeaa
open Go.RowKit

theorem Reps.app {w : World} : ∀ {l m : List A} {rs ss : List R}, Reps w l rs → Reps w m ss → Reps w (l ++ m) (rs ++ ss)
  | [], _, [], _, _, h => by simpa using h
  | a :: l, _, r :: rs, _, h, k => by simp only [Reps, List.cons_append] at h ⊢; exact ⟨h.1, h.2.app k⟩
  | [], _, _ :: _, _, h, _ => by simp [Reps] at h
  | _ :: _, _, [], _, h, _ => by simp [Reps] at h
theorem Reps.take {w : World} {l : List A} {rs : List R} (h : Reps w l rs) (i : Nat) : Reps w (l.take i) (rs.take i) := by
  rw [Reps_iff] at h ⊢
  refine ⟨by simp [h.1], fun j a r ha hr => ?_⟩
  rw [List.getElem?_take] at ha hr
  split at ha
  · rename_i hj
    rw [if_pos hj] at hr
    exact h.2 j a r ha hr
  · cases ha
theorem Reps.drop {w : World} {l : List A} {rs : List R} (h : Reps w l rs) (i : Nat) : Reps w (l.drop i) (rs.drop i) := by
  rw [Reps_iff] at h ⊢
  refine ⟨by simp [h.1], fun j a r ha hr => ?_⟩
  rw [List.getElem?_drop] at ha hr
  exact h.2 _ a r ha hr

/-- A child replaced by some. -/
theorem splice {S : Nat → Prop} {w w' : World} {ub ua uoff ucap g off cap m i : Nat} {ks news : List A} {kids newr : List R} {y : A} {k W H x0 y0 : Int}
    (hr : Rep w (.split ub ua uoff ucap ks) (.mk k W H 0 kids)) (hn : (A.split ub ua uoff ucap ks).blks.Nodup) (hi : ks[i]? = some y) (hnews : Reps w' news newr) (hnn : (blksL news).Nodup)
    (hdis : ∀ k ∈ blksL news, k ∈ y.blks ∨ k ∉ (A.split ub ua uoff ucap ks).blks) (hu : Upd S w w') (hS : ∀ k ∈ (A.split ub ua uoff ucap ks).blks, k ≠ ub → k ≠ ua → k ∉ y.blks → ¬ S k)
    (hb : w'.heap[ub]? = some (.cells #[.int .i64 x0, .int .i64 y0, .int .i64 W, .int .i64 H, .int .i64 k, .slice (some ⟨g, off, none⟩) m cap] 105 (0, 0))) (hm : m = (ks.take i ++ news ++ ks.drop (i + 1)).length)
    (hrow : Row w' g off cap ((ks.take i ++ news ++ ks.drop (i + 1)).map A.val)) (hg : g = ua ∨ (g ∉ (A.split ub ua uoff ucap ks).blks ∧ g ∉ blksL news)) :
    Rep w' (.split ub g off cap (ks.take i ++ news ++ ks.drop (i + 1))) (.mk k W H 0 (kids.take i ++ newr ++ kids.drop (i + 1))) ∧ (A.split ub g off cap (ks.take i ++ news ++ ks.drop (i + 1))).blks.Nodup ∧
      ∀ k' ∈ (A.split ub g off cap (ks.take i ++ news ++ ks.drop (i + 1))).blks, k' = g ∨ k' ∈ blksL news ∨ k' ∈ (A.split ub ua uoff ucap ks).blks := by
  simp only [Rep] at hr
  obtain ⟨_, h2, _, _, h5⟩ := hr
  have hn0 := hn
  simp only [A.blks, List.nodup_cons, List.mem_cons, not_or] at hn
  obtain ⟨⟨n1, n2⟩, n3, n4⟩ := hn
  obtain ⟨hil, hyi⟩ := List.getElem?_eq_some_iff.1 hi
  have hsplit : ks = ks.take i ++ y :: ks.drop (i + 1) := by
    rw [← hyi, List.getElem_cons_drop, List.take_append_drop]
  have hall : blksL ks = blksL (ks.take i) ++ (y.blks ++ blksL (ks.drop (i + 1))) := by
    conv => lhs; rw [hsplit]
    rw [blksL_append, blksL]
  have hall2 : blksL (ks.take i ++ news ++ ks.drop (i + 1)) = blksL (ks.take i) ++ (blksL news ++ blksL (ks.drop (i + 1))) := by
    rw [List.append_assoc, blksL_append, blksL_append]
  rw [hall] at n2 n3 n4
  simp only [List.mem_append, not_or] at n2 n3
  rw [List.nodup_append, List.nodup_append] at n4
  obtain ⟨m1, ⟨m2, m3, m4⟩, m5⟩ := n4
  have hin : ∀ k, (k ∈ blksL (ks.take i) ∨ k ∈ blksL (ks.drop (i + 1))) → k ∈ (A.split ub ua uoff ucap ks).blks := fun k hk' => by
    simp only [A.blks, List.mem_cons, hall, List.mem_append]
    rcases hk' with e | e
    · exact .inr (.inr (.inl e))
    · exact .inr (.inr (.inr (.inr e)))
  have hub : ub ∉ blksL news := fun e => by
    rcases hdis ub e with e' | e'
    · exact n2.2.1 e'
    · exact e' (by simp [A.blks])
  have hua : ua ∉ blksL news := fun e => by
    rcases hdis ua e with e' | e'
    · exact n3.2.1 e'
    · exact e' (by simp [A.blks])
  have hgn : g ∉ blksL news := by
    rcases hg with rfl | ⟨_, e⟩
    · exact hua
    · exact e
  have hgo : ∀ k, (k ∈ blksL (ks.take i) ∨ k ∈ blksL (ks.drop (i + 1))) → g ≠ k := by
    rintro k hk rfl
    rcases hg with rfl | ⟨e, _⟩
    · rcases hk with e' | e'
      · exact n3.1 e'
      · exact n3.2.2 e'
    · exact e (hin g hk)
  have hgub : ub ≠ g := by
    rintro rfl
    rcases hg with e | ⟨e, _⟩
    · exact n1 e
    · exact e (by simp [A.blks])
  have hfar : ∀ k, (k ∈ blksL (ks.take i) ∨ k ∈ blksL (ks.drop (i + 1))) → ¬ S k := fun k hk => by
    refine hS k (hin k hk) ?_ ?_ ?_
    · rintro rfl
      rcases hk with e | e
      · exact n2.1 e
      · exact n2.2.2 e
    · rintro rfl
      rcases hk with e | e
      · exact n3.1 e
      · exact n3.2.2 e
    · intro hy
      rcases hk with e | e
      · exact m5 k e k (List.mem_append_left _ hy) rfl
      · exact m4 k hy k e rfl
  refine ⟨⟨rfl, h2, ⟨x0, y0, by rw [← hm]; exact hb⟩, hrow, ?_⟩, ?_, ?_⟩
  · exact (((h5.take i).upd hu fun k hk => hfar k (.inl hk)).app hnews).app ((h5.drop (i + 1)).upd hu fun k hk => hfar k (.inr hk))
  · simp only [A.blks, List.nodup_cons, List.mem_cons, not_or, hall2, List.mem_append]
    refine ⟨⟨hgub, n2.1, hub, n2.2.2⟩, ⟨fun e => hgo g (.inl e) rfl, hgn, fun e => hgo g (.inr e) rfl⟩, ?_⟩
    rw [List.nodup_append, List.nodup_append]
    refine ⟨m1, ⟨hnn, m3, fun u hu v hv huv => ?_⟩, fun u hu v hv huv => ?_⟩
    · subst huv
      rcases hdis u hu with e' | e'
      · exact m4 u e' u hv rfl
      · exact e' (hin u (.inr hv))
    · subst huv
      rcases List.mem_append.1 hv with hv | hv
      · rcases hdis u hv with e' | e'
        · exact m5 u hu u (List.mem_append_left _ e') rfl
        · exact e' (hin u (.inl hu))
      · exact m5 u hu u (List.mem_append_right _ hv) rfl
  · intro k' hk'
    simp only [A.blks, List.mem_cons, hall2, List.mem_append] at hk'
    rcases hk' with rfl | rfl | e | e | e
    · exact .inr (.inr (by simp [A.blks]))
    · exact .inl rfl
    · exact .inr (.inr (hin k' (.inl e)))
    · exact .inr (.inl e)
    · exact .inr (.inr (hin k' (.inr e)))

/-! ### read's trees -/
theorem grow_fed (f : Nat) : (∀ (l : List Cl) (d : Int) (r : R) (l' : List Cl), growF f l d = some (r, l') → r.Fed) ∧
    (∀ (c : Cl) (d : Int) (l : List Cl) (ks : List R) (sum : Int) (ks' : List R) (sum' : Int) (l' : List Cl), growK f c d l ks sum = some (ks', sum', l') → FedL ks → FedL ks') := by
  have happ : ∀ (l m : List R), FedL (l ++ m) ↔ FedL l ∧ FedL m := by
    intro l m
    induction l with
    | nil => simp [FedL]
    | cons a l ih => simp [FedL, ih, and_assoc]
  induction f with
  | zero => exact ⟨fun l d r l' h => by simp [growF] at h, fun c d l ks sum ks' sum' l' h => by simp [growK] at h⟩
  | succ f ih =>
    refine ⟨fun l d r l' h => ?_, fun c d l ks sum ks' sum' l' h hb => ?_⟩
    · cases l with
      | nil => simp [growF] at h
      | cons c t =>
        rw [growF_cons] at h
        split at h
        · simp only [Option.some.injEq, Prod.mk.injEq] at h
          obtain ⟨rfl, rfl⟩ := h
          exact ⟨.inl rfl, trivial⟩
        · split at h
          · cases h
          · rename_i ks sum l2 hK
            have h2 := ih.2 _ _ _ _ _ _ _ _ hK trivial
            split at h
            · cases h
            · rename_i hlen
              split at h
              · simp only [Option.some.injEq, Prod.mk.injEq] at h
                obtain ⟨rfl, rfl⟩ := h
                exact ⟨.inr (by rintro rfl; simp at hlen), h2⟩
              · cases h
    · cases l with
      | nil =>
        rw [growK_nil] at h
        simp only [Option.some.injEq, Prod.mk.injEq] at h
        obtain ⟨rfl, rfl, rfl⟩ := h
        exact hb
      | cons e t =>
        rw [growK_cons] at h
        split at h
        · split at h
          · cases h
          · split at h
            · cases h
            · rename_i r l2 hF
              split at h
              · exact ih.2 _ _ _ _ _ _ _ _ h ((happ _ _).2 ⟨hb, ih.1 _ _ _ _ hF, trivial⟩)
              · cases h
        · simp only [Option.some.injEq, Prod.mk.injEq] at h
          obtain ⟨rfl, rfl, rfl⟩ := h
          exact hb

mutual
theorem depth_cnt : ∀ (r : R), r.depth ≤ r.cnt
  | .mk _ _ _ _ kids => by simp only [R.depth, R.cnt]; have := depthL_cnt kids; omega
theorem depthL_cnt : ∀ (l : List R), depthL l ≤ cntL l
  | [] => by simp [depthL, cntL]
  | r :: rs => by simp only [depthL, cntL]; have := depth_cnt r; have := depthL_cnt rs; omega
end

/-- What is known of a tree that read gives. -/
structure ReadIs (l : List Cl) (r : R) : Prop where
  len : l.length ≤ 64
  cnt : r.cnt = l.length
  bd : r.Bd 1 1000
  fed : r.Fed
  lay : r.lay 0 0 0 = l

theorem read_is {l : List Cl} {r : R} (h : readF l = some r) : ReadIs l r := by
  unfold readF at h
  cases l with
  | nil => cases h
  | cons c t =>
    simp only [] at h
    split at h
    · rename_i h0
      cases hs : scan (c :: t) [] with
      | none => rw [hs] at h; cases h
      | some ids =>
        rw [hs] at h
        simp only [] at h
        split at h
        · cases hg : growF (2 * (c :: t).length + 1) (c :: t) 0 with
          | none => rw [hg] at h; cases h
          | some res =>
            obtain ⟨r', l'⟩ := res
            rw [hg] at h
            simp only [] at h
            split at h
            · rename_i h1
              cases h
              obtain ⟨rfl, h2⟩ := h1
              obtain ⟨h3, h4⟩ := (grow_cnt _).1 _ _ _ _ hg (scan_ok _ _ _ hs)
              exact ⟨h0.1, by simpa using h3, h4, (grow_fed _).1 _ _ _ _ hg, h2⟩
            · cases h
        · cases h
    · cases h

/-- The place of a pane. -/
theorem find_at (p : Int) (q : List Nat) : ∀ (r : R), r.find p = some q → ∃ W H kids, r.at q = some (.mk 1 W H p kids) := by
  induction q with
  | nil =>
    intro r h
    obtain ⟨k, W, H, i, kids⟩ := r
    rw [R.find] at h
    split at h
    · rename_i hk
      split at h
      · rename_i hp
        subst hk hp
        exact ⟨W, H, kids, R.at_nil _⟩
      · cases h
    · obtain ⟨j, r, q', h1, _⟩ := findL_len (P := fun _ _ => True) p kids 0 _ h
      cases h1
  | cons j q ih =>
    intro r h
    obtain ⟨k, W, H, i, kids⟩ := r
    rw [R.find] at h
    split at h
    · split at h <;> cases h
    · obtain ⟨j', r, q', h1, h2, h3⟩ := findL_len (P := fun _ _ => True) p kids 0 _ h
      simp only [Nat.zero_add, List.cons.injEq] at h1
      obtain ⟨rfl, rfl⟩ := h1
      obtain ⟨W', H', kids', h4⟩ := ih r h3
      refine ⟨W', H', kids', ?_⟩
      simp only [R.at, h2]
      exact h4

/-! ### Split, plain -/
/-- The two panes, in their order. -/
def cutPair (kind n : Int) (before : Bool) (id W H p : Int) : List R :=
  let old := (R.mk 1 W H p []).setExt kind (ext kind W H - 1 - n)
  let new := (R.mk 1 W H id []).setExt kind n
  if before then [new, old] else [old, new]
/-- The tree in which what stands at a place is cut in two. -/
def R.cutAt (kind : Int) (pr : List R) (W H : Int) : R → List Nat → R
  | _, [] => .mk kind W H 0 pr
  | .mk k w h id kids, i :: q =>
    if q = [] ∧ k = kind then .mk k w h id (kids.take i ++ pr ++ kids.drop (i + 1))
    else .mk k w h id (match kids[i]? with | some z => kids.set i (z.cutAt kind pr W H q) | none => kids)
termination_by _ q => q.length
/-- The new pane's extent. -/
def splitN (s size : Int) : Int := if size < 1 then (s - 1).tdiv 2 else min size (s - 2)
def splitF (l : List Cl) (pane kind size : Int) (before : Bool) (id : Int) : List Cl × Int :=
  match readF l with
  | none => ([], 40)
  | some r =>
    if kindB kind = false then ([], 1)
    else match r.find pane with
    | none => ([], 42)
    | some q =>
      if freshF r.ids id ≠ 0 then ([], freshF r.ids id)
      else match r.at q with
      | none => ([], 0)
      | some p => if ext kind p.w p.h < 3 then ([], 44) else ((r.cutAt kind (cutPair kind (splitN (ext kind p.w p.h) size) before id p.w p.h pane) p.w p.h q).lay 0 0 0, 0)

/-- The place ahead of the last step: the cell there, changed. -/
theorem cutAt_snoc (kind : Int) (pr : List R) (W H : Int) : ∀ (q : List Nat) (i : Nat) (r s : R), r.at q = some s → r.cutAt kind pr W H (q ++ [i]) = r.upd q (s.cutAt kind pr W H [i])
  | [], i, r, s, h => by rw [R.at_nil] at h; cases h; rw [R.upd_nil]; rfl
  | j :: q, i, .mk k w h' id kids, s, h => by
    simp only [R.at] at h
    cases hz : kids[j]? with
    | none => rw [hz] at h; cases h
    | some z =>
      rw [hz] at h
      have ih := cutAt_snoc kind pr W H q i z s h
      simp only [List.cons_append, R.cutAt, R.upd, hz]
      rw [if_neg (by simp), ih]

end Go.Proofs.Ytpehceccnjdfeaa
