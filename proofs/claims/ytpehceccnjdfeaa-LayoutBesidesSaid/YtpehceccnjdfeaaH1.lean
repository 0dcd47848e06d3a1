/- The laws' twin and kept. -/
import Derived.Test.YtpehceccnjdfeaaF2
import Derived.Laws.AppendOwnNone
namespace Go.Proofs.Ytpehceccnjdfeaa
open Go.RowKit

/-- The marks behind a twin. -/
def mark (p : Int) : Cl := ⟨0, 0, 0, 0, 0, 0, p⟩
def marked (l : List Cl) : List Cl := l ++ [mark 201, mark 202, mark 203]

/-- A twin: a copy with three marked cells behind it. -/
def Twin (w : World) (B g cap : Nat) (l : List Cl) : Prop := w.ownsRow B 53 7 (.slice (some ⟨g, 0, none⟩) (l.length + 3) cap) (l.length + 3) (cvals (marked l))

def TwinPost (w : World) (l : List Cl) (e : Ending) (w' : World) : Prop :=
  ∃ g cap, e = .returned (.slice (some ⟨g, 0, none⟩) l.length cap) ∧ Twin w' w.heap.size g cap l ∧ Below w.heap.size w w'

theorem Twin.facts {w : World} {B g cap : Nat} {l : List Cl} (h : Twin w B g cap l) : B ≤ g ∧ g < w.heap.size ∧ l.length + 3 ≤ cap ∧ cap ≤ maxLen := by
  rcases h.2 with ⟨e, _⟩ | ⟨g', cap', cur, e, h1, h2, h3, h4, h5⟩
  · cases e
  · simp only [Value.slice.injEq, Option.some.injEq, Addr.mk.injEq] at e
    obtain ⟨⟨rfl, _, _⟩, _, rfl⟩ := e
    exact ⟨h1, (World.ownsRow.lt h g rfl).2, h3, h4⟩

theorem Twin.reads {w : World} {B g cap : Nat} {l : List Cl} (h : Twin w B g cap l) (hl : l.length * 56 ≤ 140737488355328) : Reads w (.slice (some ⟨g, 0, none⟩) l.length cap) l := by
  obtain ⟨_, _, h3, h4⟩ := h.facts
  refine ⟨_, cap, rfl, by omega, ⟨h4, hl⟩, fun _ => ⟨g, 0, rfl, fun i c hc j hj => ?_⟩⟩
  have hi := (List.getElem?_eq_some_iff.1 hc).1
  rw [Nat.zero_add, World.ownsRow.cellAt h (i * 7 + j) (by omega)]
  exact cvals_at (marked l) i c j (by unfold marked; rw [List.getElem?_append_left hi]; exact hc) hj

theorem Twin.below {w w' : World} {B g cap : Nat} {l : List Cl} (h : Twin w B g cap l) (hb : Below w.heap.size w w') : Twin w' B g cap l := ownsRow_upd h (Upd.of_below (fun _ => False) hb) (by simp)

theorem own_cap {w : World} {B e sz n g cap : Nat} {xs : List Value} (h : w.ownsRow B e sz (.slice (some ⟨g, 0, none⟩) n cap) n xs) : n ≤ cap ∧ cap ≤ maxLen := by
  rcases h.2 with ⟨e, _⟩ | ⟨g', cap', cur, e, h1, h2, h3, h4, h5⟩
  · cases e
  · simp only [Value.slice.injEq, Option.some.injEq, Addr.mk.injEq] at e
    obtain ⟨⟨rfl, _, _⟩, _, rfl⟩ := e
    exact ⟨h3, h4⟩

set_option maxRecDepth 100000 in
theorem twin_any (v : Value) (l : List Cl) (w : World) (h : Reads w v l) (hl : l.length * 56 + 168 ≤ 140737488355328) (hz : l = [] → v = .slice none 0 0 ∨ ∃ ad c, v = .slice (some ad) 0 c) : Calls Try.prog 25 #[v] w fun e w' => TwinPost w l e w' := by
  obtain ⟨a, cap, rfl, h1, h2, h3⟩ := h
  obtain ⟨i0, hi0, hz0, hz1, hz2⟩ := info_parts info53
  have Hi := Lib.hid hi0; have Hz0 := Lib.hid hz0; have Hz1 := Lib.hid hz1; have Hz2 := Lib.hid hz2
  clear hi0 hz0 hz1 hz2
  have hcap := h2.1
  unfold maxLen at hcap
  generalize hn : l.length = n at *
  have HN := Lib.hid hn
  have HM : Hid (∀ (g cap' : Nat) (W : World) (x : Value), W.ownsRow w.heap.size 53 7 (.slice (some ⟨g, 0, none⟩) (n + 3) cap') (n + 3) (cvals l ++ [.int .i64 0, .int .i64 0, .int .i64 0, .int .i64 0, .int .i64 0, .int .i64 0, .int .i64 201, .int .i64 0, .int .i64 0, .int .i64 0, .int .i64 0, .int .i64 0, .int .i64 0, .int .i64 202, .int .i64 0, .int .i64 0, .int .i64 0, .int .i64 0, .int .i64 0, .int .i64 0, .int .i64 203]) → Twin W w.heap.size g cap' l) := by
    refine Lib.hid fun g cap' W _ h => ?_
    unfold Twin marked
    rw [cvals_append, hn]
    simpa [cvals, mark, Cl.vals] using h
  cases l with
  | nil =>
    simp only [List.length_nil] at hn
    subst hn
    have hv := hz rfl
    clear hz h1 h2 h3
    rcases hv with hv | ⟨ad, c', hv⟩
    all_goals
      simp only [Value.slice.injEq] at hv
      obtain ⟨rfl, _, rfl⟩ := hv
      go_enter Try.func25, Try.ntmps25
      go_wp2_with (at_builtin; (refine wpList_append_lies _ rfl (.tmp 7) (.tmp 11) 22 rfl w.heap.size 53 i0 _ 7 56 Try.underlying22 Hi.out Hz0.out Hz1.out Hz2.out rfl (by decide) (.slice none 0 0) 0 [] rfl ((World.ownsRow_nil w w.heap.size 53 7).alloc _) ⟨w.heap.size, 0, none⟩ 3 3 [.int .i64 0, .int .i64 0, .int .i64 0, .int .i64 0, .int .i64 0, .int .i64 0, .int .i64 201, .int .i64 0, .int .i64 0, .int .i64 0, .int .i64 0, .int .i64 0, .int .i64 0, .int .i64 202, .int .i64 0, .int .i64 0, .int .i64 0, .int .i64 0, .int .i64 0, .int .i64 0, .int .i64 203] rfl rfl (World.news_of_block (cs := #[.int .i64 0, .int .i64 0, .int .i64 0, .int .i64 0, .int .i64 0, .int .i64 0, .int .i64 201, .int .i64 0, .int .i64 0, .int .i64 0, .int .i64 0, .int .i64 0, .int .i64 0, .int .i64 202, .int .i64 0, .int .i64 0, .int .i64 0, .int .i64 0, .int .i64 0, .int .i64 0, .int .i64 203]) (t := 53) (fr := (0, 0)) (heap_alloc_new w _)) (by simp [Value.oneCell']) (by omega) (by unfold maxLen; omega) (by omega) (by simp) (w.heap.size + 1) (by simp) ?_); intro g3 cap3 w3 hown3 hgrow3 hat3 hlt3; have Hown3 := Lib.hid hown3; have Hgrow3 := Lib.hid hgrow3; have hc3 := own_cap hown3; clear hown3 hgrow3)
      go_ret
      exact ⟨g3, cap3, rfl, HM.out g3 cap3 w3 .nilIface (by simpa [cvals] using Hown3.out), ((Below.refl _ _).alloc (Nat.le_refl _) _).grown Hgrow3.out (by simp) (fun k hk => by cases hk)⟩
  | cons c t =>
    obtain ⟨b, off, rfl, hc⟩ := h3 (by rw [← hn]; simp)
    have hn0 : 0 < n := by rw [← hn]; simp
    have hnews : ∀ j u, (cvals (c :: t))[j]? = some u → w.cell? ((⟨b, off, none⟩ : Addr).add j) = some u := by
      intro j u hu
      have hj := (List.getElem?_eq_some_iff.1 hu).1
      rw [cvals_length] at hj
      obtain ⟨x, hx⟩ : ∃ x, (c :: t)[j / 7]? = some x := ⟨(c :: t)[j / 7]'(by omega), by simp⟩
      have h1 := hc (j / 7) x hx (j % 7) (Nat.mod_lt _ (by omega))
      have h2 := cvals_at (c :: t) (j / 7) x (j % 7) hx (Nat.mod_lt _ (by omega))
      rw [show j / 7 * 7 + j % 7 = j by omega] at h2
      rw [← h2, hu, show off + j / 7 * 7 + j % 7 = off + j by omega] at h1
      rw [show (⟨b, off, none⟩ : Addr).add j = ⟨b, off + j, none⟩ by simp only [Addr.add]; split <;> simp_all]
      exact h1
    have hcl : (cvals (c :: t)).length = n * 7 := by rw [cvals_length, hn]
    have hone := cvals_one_cell (c :: t)
    generalize hcv : cvals (c :: t) = cv at *
    have HNEWS := Lib.hid hnews; have HCL := Lib.hid hcl; have HONE := Lib.hid hone
    clear hnews hc h3 hz hcl hone hcv
    go_enter Try.func25, Try.ntmps25
    go_wp2_with (first
      | (at_builtin; (refine wpList_append_lies _ rfl (.tmp 4) (.tmp 5) 22 rfl w.heap.size 53 i0 _ 7 56 Try.underlying22 Hi.out Hz0.out Hz1.out Hz2.out rfl (by decide) (.slice none 0 0) 0 [] rfl (World.ownsRow_nil w w.heap.size 53 7) ⟨b, off, none⟩ n cap cv rfl HCL.out HNEWS.out HONE.out hn0 (by unfold maxLen; omega) (by omega) (by omega) w.heap.size rfl ?_); intro g2 cap2 w2 hown2 hgrow2 hat2 hlt2; simp only [Nat.zero_add, List.nil_append] at hown2; have hc2 := own_cap hown2; have hs2 := hgrow2.size; have Hown2 := Lib.hid hown2; have Hgrow2 := Lib.hid hgrow2; clear hown2 hgrow2)
      | (at_builtin; (refine wpList_append_lies _ rfl (.tmp 7) (.tmp 11) 22 rfl w.heap.size 53 i0 _ 7 56 Try.underlying22 Hi.out Hz0.out Hz1.out Hz2.out rfl (by decide) (.slice (some ⟨g2, 0, none⟩) n cap2) n cv rfl (Hown2.out.alloc _) ⟨w2.heap.size, 0, none⟩ 3 3 [.int .i64 0, .int .i64 0, .int .i64 0, .int .i64 0, .int .i64 0, .int .i64 0, .int .i64 201, .int .i64 0, .int .i64 0, .int .i64 0, .int .i64 0, .int .i64 0, .int .i64 0, .int .i64 202, .int .i64 0, .int .i64 0, .int .i64 0, .int .i64 0, .int .i64 0, .int .i64 0, .int .i64 203] rfl rfl (World.news_of_block (cs := #[.int .i64 0, .int .i64 0, .int .i64 0, .int .i64 0, .int .i64 0, .int .i64 0, .int .i64 201, .int .i64 0, .int .i64 0, .int .i64 0, .int .i64 0, .int .i64 0, .int .i64 0, .int .i64 202, .int .i64 0, .int .i64 0, .int .i64 0, .int .i64 0, .int .i64 0, .int .i64 0, .int .i64 203]) (t := 53) (fr := (0, 0)) (heap_alloc_new w2 _)) (by simp [Value.oneCell']) (by omega) (by unfold maxLen; omega) (by omega) (by simp; omega) (w2.heap.size + 1) (by simp) ?_); intro g3 cap3 w3 hown3 hgrow3 hat3 hlt3; have hc3 := own_cap hown3; have Hown3 := Lib.hid hown3; have Hgrow3 := Lib.hid hgrow3; clear hown3 hgrow3))
    go_ret
    exact ⟨g3, cap3, by rw [HN.out]; rfl, HM.out g3 cap3 w3 .nilIface Hown3.out, (((Below.refl w.heap.size w).grown Hgrow2.out (Nat.le_refl _) (fun k hk => by cases hk)).alloc (by omega) _).grown Hgrow3.out (by simp; omega) (fun k hk => (World.ownsRow.lt Hown2.out k hk).1)⟩

set_option maxRecDepth 100000 in
theorem kept_any (v : Value) (l : List Cl) (B g cap : Nat) (w : World) (h : Reads w v l) (hl : l.length * 56 + 168 ≤ 140737488355328) (ht : Twin w B g cap l) : Calls Try.prog 28 #[.slice (some ⟨g, 0, none⟩) l.length cap, v] w fun e w' => e = .returned (.bool true) ∧ ∃ q, w' = w.drewN q := by
  have hs := same_any _ v l l w (ht.reads (by omega)) h
  simp only [decide_true] at hs
  obtain ⟨_, hg, hc1, hc2⟩ := ht.facts
  obtain ⟨a, cv, rfl, _, _, _⟩ := h
  have hm : ∀ (i : Nat) (p : Int), (i, p) = (0, 201) ∨ (i, p) = (1, 202) ∨ (i, p) = (2, 203) → w.cell? ⟨g, (l.length + i) * 7 + 6, none⟩ = some (.int .i64 p) := by
    intro i p hi
    have hi3 : i < 3 := by rcases hi with e | e | e <;> (simp only [Prod.mk.injEq] at e; omega)
    rw [World.ownsRow.cellAt ht ((l.length + i) * 7 + 6) (by omega)]
    have : (marked l)[l.length + i]? = some (mark p) := by
      unfold marked
      rw [List.getElem?_append_right (by omega), show l.length + i - l.length = i by omega]
      rcases hi with e | e | e <;> (simp only [Prod.mk.injEq] at e; obtain ⟨rfl, rfl⟩ := e; rfl)
    rw [cvals_at (marked l) (l.length + i) (mark p) 6 this (by omega)]
    rfl
  have m1 := hm 0 201 (by simp)
  have m2 := hm 1 202 (by simp)
  have m3 := hm 2 203 (by simp)
  simp only [Nat.add_zero] at m1
  unfold maxLen at hc2
  generalize l.length = n at *
  have HS := Lib.hid hs; clear hs hm ht
  have y1 : ((n : Int) + 3).toNat = n + 3 := by omega
  have y2 : ((n : Int) + 1).toNat = n + 1 := by omega
  have y3 : ((n : Int) + 2).toNat = n + 2 := by omega
  go_enter Try.func28, Try.ntmps28
  go_wp2_with fail
  refine HS.out.mono ?_
  rintro e w1 ⟨rfl, q, rfl⟩
  go_wp2_with fail
  go_ret
  exact ⟨rfl, q, rfl⟩

end Go.Proofs.Ytpehceccnjdfeaa
