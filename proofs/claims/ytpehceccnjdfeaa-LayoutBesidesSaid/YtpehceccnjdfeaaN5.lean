import Derived.Test.YtpehceccnjdfeaaM6
import Derived.Test.YtpehceccnjdfeaaK3
import Derived.LaidEqlPtr
import Derived.Deep.LoopGhost
import Derived.Deep.DeepCutAuto
import Derived.Deep.CutBlock
import Derived.Test.YtpehceccnjdfeaaH1
import Derived.Lib.QuietBelow

section

section
/- Beside, plain. -/
namespace Go.Proofs.Ytpehceccnjdfeaa
open Go.RowKit

theorem spanL_nonneg (k : Int) : ∀ (l : List R), (∀ r ∈ l, r.ok) → 0 ≤ spanL k l
  | [], _ => by simp [spanL]
  | r :: rs, h => by
    have h1 := spanL_nonneg k rs fun q hq => h q (by simp [hq])
    have h2 := h r (by simp)
    have h3 : 1 ≤ r.ext k := by
      cases r; simp only [R.ok] at h2; simp only [R.ext, ext, R.w, R.h]; split <;> omega
    simp only [spanL]; omega

mutual
/-- The cells of a tree lie within it. -/
theorem lay_in : ∀ (r : R) (d x y : Int), r.ok → ∀ c ∈ r.lay d x y, x ≤ c.x ∧ c.x + c.w ≤ x + r.w ∧ y ≤ c.y ∧ c.y + c.h ≤ y + r.h
  | .mk k w h i kids, d, x, y, hok, c, hc => by
    simp only [R.ok] at hok
    rw [R.lay] at hc
    rcases List.mem_cons.1 hc with rfl | hc
    · simp [R.w, R.h]
    · rcases hok.2 with ⟨_, h1, _⟩ | ⟨hk, _, _, h1, h2⟩
      · subst h1; simp [layL] at hc
      · have := layL_in kids k w h (d + 1) x y hk h1 c hc
        simp only [R.w, R.h]
        rcases hk with rfl | rfl
        · simp [ext] at this h2; omega
        · simp [ext] at this h2; omega
theorem layL_in : ∀ (l : List R) (k w h d x y : Int), (k = 2 ∨ k = 3) → okL k w h l → ∀ c ∈ layL k d x y l, x ≤ c.x ∧ y ≤ c.y ∧ (if k = 2 then c.x + c.w + 1 ≤ x + spanL k l ∧ c.y + c.h ≤ y + h else c.x + c.w ≤ x + w ∧ c.y + c.h + 1 ≤ y + spanL k l)
  | [], _, _, _, _, _, _, _, _, c, hc => by simp [layL] at hc
  | r :: rs, k, w, h, d, x, y, hk, hok, c, hc => by
    have hsn := spanL_nonneg k rs fun q hq => (okL_mem hok.2 hq).2.2
    obtain ⟨⟨_, hx, hr⟩, hrs⟩ := hok
    have hb : 1 ≤ r.w ∧ 1 ≤ r.h := by
      cases r; simp only [R.ok] at hr; exact ⟨hr.1.1, hr.1.2.2.1⟩
    rw [layL] at hc
    simp only [spanL]
    rcases List.mem_append.1 hc with hc | hc
    · have := lay_in r d x y hr c hc
      rcases hk with rfl | rfl
      · simp [R.ext, ext] at hx ⊢; omega
      · simp [R.ext, ext] at hx ⊢; omega
    · have := layL_in rs k w h d _ _ hk hrs c hc
      rcases hk with rfl | rfl
      · simp [R.ext, ext] at hx this ⊢; omega
      · simp [R.ext, ext] at hx this ⊢; omega
end

/-- From where to where a cell goes in that direction. -/
def loC (k : Int) (c : Cl) : Int := if k = 2 then c.x else c.y
def hiC (k : Int) (c : Cl) : Int := if k = 2 then c.x + c.w else c.y + c.h

/-- The direction of a side. -/
def sideK (s : Int) : Int := if s = 3 ∨ s = 4 then 3 else 2

/-- Does the second lie on that side of the first? -/
def nearC (s e : Int) (c d : Cl) : Bool :=
  if s = 1 ∨ s = 3 then (hiC (sideK s) d + 1 == loC (sideK s) c || (loC (sideK s) c == 0 && hiC (sideK s) d == e))
  else (loC (sideK s) d == hiC (sideK s) c + 1 || (hiC (sideK s) c == e && loC (sideK s) d == 0))
def touchC (s e : Int) (c d : Cl) : Bool :=
  nearC s e c d && decide (loC (5 - sideK s) c < hiC (5 - sideK s) d) && decide (loC (5 - sideK s) d < hiC (5 - sideK s) c)

def besideF (l : List Cl) (pane side : Int) : Int × Bool := match readF l with
  | none => (0, false)
  | some r => if side < 1 ∨ 4 < side then (0, false) else match (panesOf l).find? (fun c => c.p == pane) with
    | none => (0, false)
    | some c => hitF (fun d => !(d.p == pane) && touchC side (r.ext (sideK side)) c d) (panesOf l)

/-- As the reference asks. -/
def meetB (a n b m : Int) : Bool := decide (a < b + m) && decide (b < a + n)
def touchR (s w h : Int) (c d : Cl) : Bool :=
  if s = 1 then (d.x + d.w + 1 == (if c.x = 0 then w + 1 else c.x)) && meetB c.y c.h d.y d.h
  else if s = 2 then (d.x == (if c.x + c.w + 1 = w + 1 then 0 else c.x + c.w + 1)) && meetB c.y c.h d.y d.h
  else if s = 3 then (d.y + d.h + 1 == (if c.y = 0 then h + 1 else c.y)) && meetB c.x c.w d.x d.w
  else if s = 4 then (d.y == (if c.y + c.h + 1 = h + 1 then 0 else c.y + c.h + 1)) && meetB c.x c.w d.x d.w
  else false

def InW (w h : Int) (c : Cl) : Prop := 0 ≤ c.x ∧ c.x + c.w ≤ w ∧ 0 ≤ c.y ∧ c.y + c.h ≤ h ∧ 1 ≤ c.w ∧ 1 ≤ c.h

theorem touch_eq {s w h : Int} {c d : Cl} (hc : InW w h c) (hd : InW w h d) (h1 : 1 ≤ s ∧ s ≤ 4) : touchR s w h c d = touchC s (ext (sideK s) w h) c d := by
  obtain ⟨c1, c2, c3, c4, c5, c6⟩ := hc
  obtain ⟨d1, d2, d3, d4, d5, d6⟩ := hd
  rw [Bool.eq_iff_iff]
  rcases (by omega : s = 1 ∨ s = 2 ∨ s = 3 ∨ s = 4) with rfl | rfl | rfl | rfl <;>
    simp [touchR, touchC, nearC, sideK, ext, loC, hiC, meetB] <;> split <;> omega

end Go.Proofs.Ytpehceccnjdfeaa
end
end

section

section
/- Beside, the program's: the place of the pane among the panes. -/
namespace Go.Proofs.Ytpehceccnjdfeaa
open Go.RowKit

set_option maxRecDepth 100000 in
theorem beside_fn (b B : Nat) (id p : Int) (w : World) (h4 : w.cell? ⟨b, 4, none⟩ = some (.int .i64 id)) (hB : w.cell? ⟨B, 0, none⟩ = some (.int .i64 p)) :
    Calls Try.prog 93 #[.pointer (some ⟨b, 0, none⟩), .pointer (some ⟨B, 0, none⟩)] w fun e w' => e = .returned (.bool (id == p)) ∧ ∃ m, w' = w.drewN m := by
  go_enter Try.func93, Try.ntmps93
  go_wp2_with fail
  go_quiet (fail)
  go_wp2_with fail
  go_ret
  exact ⟨rfl, _, rfl⟩

set_option maxRecDepth 100000 in
set_option maxHeartbeats 1000000 in
theorem index92 (g cap B : Nat) (bs : List Nat) (ps : List Cl) (p : Int) (n : Nat) (w : World) (hn : Hid (bs.length = n)) (hn1 : n ≤ 1000) (hps : Hid (ps.length = n)) (hc : n ≤ cap) (hcm : cap ≤ maxLen)
    (hcell : Hid (∀ (j b : Nat), bs[j]? = some b → w.cell? ⟨g, j, none⟩ = some (.pointer (some ⟨b, 0, none⟩)))) (hat : Hid (∀ (j b : Nat), bs[j]? = some b → ∃ c, ps[j]? = some c ∧ LeafAt w b c)) (hB : w.cell? ⟨B, 0, none⟩ = some (.int .i64 p)) :
    Calls Try.prog 92 #[.slice (some ⟨g, 0, none⟩) n cap, .func (.func 93) #[] #[.pointer (some ⟨B, 0, none⟩)]] w fun e w' => e = .returned (.int .i64 (ixOf (placeF (fun c => c.p == p) ps))) ∧ ∃ m, w' = w.drewN m := by
  have HB := Lib.hid hB; clear hB
  go_enter Try.func92, Try.ntmps92
  go_wp2_with fail
  go_loopw [5, 8] (fun _ i wr => ∃ j : Nat, j ≤ n ∧ i = .int .i64 j ∧ Hid (∀ c ∈ ps.take j, (c.p == p) = false) ∧ Hid (∃ q, wr = w.drewN q)) (fun _ i _ => n - (intOf i).toNat)
  case atStart => exact ⟨0, Nat.zero_le _, rfl, by show ∀ c ∈ _, _; simp, 0, rfl⟩
  case round =>
    obtain ⟨j, hj, rfl, ht, hq⟩ := hrel
    obtain ⟨q, rfl⟩ := hq.out
    by_cases hlt : j < n
    · obtain ⟨b, hbj⟩ : ∃ b, bs[j]? = some b := ⟨bs[j]'(by rw [hn.out]; exact hlt), by simp⟩
      obtain ⟨c, hcj, hla⟩ := hat.out j b hbj
      have c1 := hcell.out j b hbj
      have hF := beside_fn b B c.p p (w.drewN q) (show w.cell? _ = _ from blk_cell hla 4) (show w.cell? _ = _ from HB.out)
      have HJ := Lib.hid hcj
      clear hla hbj hcj
      cases hq : (c.p == p) with
      | true =>
        rw [hq] at hF
        have HF := Lib.hid hF; have HQ := Lib.hid hq; clear hF hq
        go_wp2_with fail
        refine HF.out.mono ?_
        rintro e w' ⟨rfl, m, rfl⟩
        go_wp2_with fail
        go_ret
        exact ⟨by rw [place_at (q := fun c => c.p == p) ht.out HJ.out HQ.out]; rfl, q + m, rfl⟩
      | false =>
        rw [hq] at hF
        have HF := Lib.hid hF; have HQ := Lib.hid hq; clear hF hq
        go_wp2_with fail
        refine HF.out.mono ?_
        rintro e w' ⟨rfl, m, rfl⟩
        go_wp2_with fail
        refine ⟨⟨j + 1, hlt, num_succ j, ?_, q + m, rfl⟩, meas_lt hlt⟩
        show ∀ c ∈ _, _
        rw [take_snoc' HJ.out]
        intro d hd
        rcases List.mem_append.1 hd with hd | hd
        · exact ht.out d hd
        · rw [List.mem_singleton.1 hd]; exact HQ.out
    · go_wp2_with fail
      go_ret
      have := ht.out
      rw [List.take_of_length_le (by have := hps.out; omega)] at this
      exact ⟨by rw [place_none (q := fun c => c.p == p) this]; rfl, q, rfl⟩

end Go.Proofs.Ytpehceccnjdfeaa
end
end

section

section
/- touches: the reference's. -/
namespace Go.Proofs.Ytpehceccnjdfeaa
open Go.RowKit

theorem meet_any (a n b m : Int) (w : World) (h1 : -1000000 ≤ a ∧ a ≤ 1000000) (h2 : -1000000 ≤ n ∧ n ≤ 1000000) (h3 : -1000000 ≤ b ∧ b ≤ 1000000) (h4 : -1000000 ≤ m ∧ m ≤ 1000000) :
    Calls Try.prog 128 #[.int .i64 a, .int .i64 n, .int .i64 b, .int .i64 m] w fun e w' => e = .returned (.bool (meetB a n b m)) ∧ w = w' := by
  have w1 : IntKind.i64.wrap (b + m) = b + m := by rw [IntKind.wrap_i64]; omega
  have w2 : IntKind.i64.wrap (a + n) = a + n := by rw [IntKind.wrap_i64]; omega
  unfold meetB
  go_enter Try.func128, Try.ntmps128
  by_cases e1 : a < b + m <;> by_cases e2 : b < a + n
  all_goals
    go_wp2_with fail
    go_ret
    simp [e1, e2]

set_option maxRecDepth 100000 in
set_option maxHeartbeats 1000000 in
theorem touch_any (c d : Cl) (s W H : Int) (w : World) (hc : InW W H c) (hd : InW W H d) (hW : W ≤ 1000) (hH : H ≤ 1000) :
    Calls Try.prog 95 #[.agg #[.int .i64 c.d, .int .i64 c.k, .int .i64 c.x, .int .i64 c.y, .int .i64 c.w, .int .i64 c.h, .int .i64 c.p], .agg #[.int .i64 d.d, .int .i64 d.k, .int .i64 d.x, .int .i64 d.y, .int .i64 d.w, .int .i64 d.h, .int .i64 d.p], .int .i64 s, .int .i64 W, .int .i64 H] w
      fun e w' => e = .returned (.bool (touchR s W H c d)) ∧ Below w.heap.size w w' := by
  obtain ⟨c1, c2, c3, c4, c5, c6⟩ := hc
  obtain ⟨d1, d2, d3, d4, d5, d6⟩ := hd
  have w1 : IntKind.i64.wrap (d.x + d.w) = d.x + d.w := by rw [IntKind.wrap_i64]; omega
  have w2 : IntKind.i64.wrap (d.x + d.w + 1) = d.x + d.w + 1 := by rw [IntKind.wrap_i64]; omega
  have w3 : IntKind.i64.wrap (d.y + d.h) = d.y + d.h := by rw [IntKind.wrap_i64]; omega
  have w4 : IntKind.i64.wrap (d.y + d.h + 1) = d.y + d.h + 1 := by rw [IntKind.wrap_i64]; omega
  have w5 : IntKind.i64.wrap (c.x + c.w) = c.x + c.w := by rw [IntKind.wrap_i64]; omega
  have w6 : IntKind.i64.wrap (c.x + c.w + 1) = c.x + c.w + 1 := by rw [IntKind.wrap_i64]; omega
  have w7 : IntKind.i64.wrap (c.y + c.h) = c.y + c.h := by rw [IntKind.wrap_i64]; omega
  have w8 : IntKind.i64.wrap (c.y + c.h + 1) = c.y + c.h + 1 := by rw [IntKind.wrap_i64]; omega
  have w9 : IntKind.i64.wrap (W + 1) = W + 1 := by rw [IntKind.wrap_i64]; omega
  have w10 : IntKind.i64.wrap (H + 1) = H + 1 := by rw [IntKind.wrap_i64]; omega
  have M1 := Lib.hid fun W => meet_any c.x c.w d.x d.w W (by omega) (by omega) (by omega) (by omega)
  have M2 := Lib.hid fun W => meet_any c.y c.h d.y d.h W (by omega) (by omega) (by omega) (by omega)
  have hb := ((Below.refl w.heap.size w).alloc (Nat.le_refl _) (.cells #[.int .i64 c.d, .int .i64 c.k, .int .i64 c.x, .int .i64 c.y, .int .i64 c.w, .int .i64 c.h, .int .i64 c.p] 53)).alloc (by simp) (.cells #[.int .i64 d.d, .int .i64 d.k, .int .i64 d.x, .int .i64 d.y, .int .i64 d.w, .int .i64 d.h, .int .i64 d.p] 53)
  have HB := Lib.hid hb
  clear hb c1 c2 c3 c4 c5 c6 d1 d2 d3 d4 d5 d6
  by_cases s1 : s = 1
  · subst s1
    cases h0 : (c.x == 0) <;> cases h1 : (d.x + d.w + 1 == (if c.x = 0 then W + 1 else c.x))
    all_goals
      have HG : Hid (touchR 1 W H c d = ((d.x + d.w + 1 == (if c.x = 0 then W + 1 else c.x)) && meetB c.y c.h d.y d.h)) := Lib.hid (by simp [touchR])
      have h00 := h0
      simp only [beq_eq_false_iff_ne, beq_iff_eq, ne_eq] at h00
      simp only [h00, if_true, if_false] at h1 HG
      have H00 := Lib.hid h00; clear h00
      go_enter Try.func95, Try.ntmps95
      go_wp2_with (go_at_call 128; refine (M2.out _).mono ?_; rintro e w' ⟨rfl, rfl⟩)
      go_ret
      exact ⟨by rw [HG.out, h1]; rfl, HB.out⟩
  by_cases s2 : s = 2
  · subst s2
    cases h0 : (c.x + c.w + 1 == W + 1) <;> cases h1 : (d.x == (if c.x + c.w + 1 = W + 1 then 0 else c.x + c.w + 1))
    all_goals
      have HG : Hid (touchR 2 W H c d = ((d.x == (if c.x + c.w + 1 = W + 1 then 0 else c.x + c.w + 1)) && meetB c.y c.h d.y d.h)) := Lib.hid (by simp [touchR])
      have h00 := h0
      simp only [beq_eq_false_iff_ne, beq_iff_eq, ne_eq] at h00
      simp only [h00, if_true, if_false] at h1 HG
      have H00 := Lib.hid h00; clear h00
      go_enter Try.func95, Try.ntmps95
      go_wp2_with (go_at_call 128; refine (M2.out _).mono ?_; rintro e w' ⟨rfl, rfl⟩)
      go_ret
      exact ⟨by rw [HG.out, h1]; rfl, HB.out⟩
  by_cases s3 : s = 3
  · subst s3
    cases h0 : (c.y == 0) <;> cases h1 : (d.y + d.h + 1 == (if c.y = 0 then H + 1 else c.y))
    all_goals
      have HG : Hid (touchR 3 W H c d = ((d.y + d.h + 1 == (if c.y = 0 then H + 1 else c.y)) && meetB c.x c.w d.x d.w)) := Lib.hid (by simp [touchR])
      have h00 := h0
      simp only [beq_eq_false_iff_ne, beq_iff_eq, ne_eq] at h00
      simp only [h00, if_true, if_false] at h1 HG
      have H00 := Lib.hid h00; clear h00
      go_enter Try.func95, Try.ntmps95
      go_wp2_with (go_at_call 128; refine (M1.out _).mono ?_; rintro e w' ⟨rfl, rfl⟩)
      go_ret
      exact ⟨by rw [HG.out, h1]; rfl, HB.out⟩
  by_cases s4 : s = 4
  · subst s4
    cases h0 : (c.y + c.h + 1 == H + 1) <;> cases h1 : (d.y == (if c.y + c.h + 1 = H + 1 then 0 else c.y + c.h + 1))
    all_goals
      have HG : Hid (touchR 4 W H c d = ((d.y == (if c.y + c.h + 1 = H + 1 then 0 else c.y + c.h + 1)) && meetB c.x c.w d.x d.w)) := Lib.hid (by simp [touchR])
      have h00 := h0
      simp only [beq_eq_false_iff_ne, beq_iff_eq, ne_eq] at h00
      simp only [h00, if_true, if_false] at h1 HG
      have H00 := Lib.hid h00; clear h00
      go_enter Try.func95, Try.ntmps95
      go_wp2_with (go_at_call 128; refine (M1.out _).mono ?_; rintro e w' ⟨rfl, rfl⟩)
      go_ret
      exact ⟨by rw [HG.out, h1]; rfl, HB.out⟩
  · have HG : Hid (touchR s W H c d = false) := Lib.hid (by simp [touchR, s1, s2, s3, s4])
    have t1 : (s == 1) = false := by simpa using s1
    have t2 : (s == 2) = false := by simpa using s2
    have t3 : (s == 3) = false := by simpa using s3
    have t4 : (s == 4) = false := by simpa using s4
    clear s1 s2 s3 s4
    go_enter Try.func95, Try.ntmps95
    go_wp2_with fail
    go_ret
    exact ⟨by rw [HG.out]; rfl, HB.out⟩

end Go.Proofs.Ytpehceccnjdfeaa
end
end

section

section
/- Beside, the program's: the pane is there. -/
namespace Go.Proofs.Ytpehceccnjdfeaa
open Go.RowKit

theorem beside_facts {l : List Cl} {r : R} (hr : readF l = some r) : (∀ c ∈ panesOf l, InW r.w r.h c) ∧ (∀ (i j : Nat) (c d : Cl), (panesOf l)[i]? = some c → (panesOf l)[j]? = some d → c.p = d.p → i = j) ∧ 1 ≤ r.w ∧ r.w ≤ 1000 ∧ 1 ≤ r.h ∧ r.h ≤ 1000 := by
  obtain ⟨hl, hok, hnd, _⟩ := (readF_iff l r).1 hr
  refine ⟨fun c hc => ?_, ?_, ?_⟩
  · have hc' : c ∈ l := (List.mem_filter.1 hc).1
    rw [← hl] at hc'
    have h1 := lay_in r 0 0 0 hok c hc'
    have h2 := (lay_spot r 0 0 0 hok c hc').2.1
    exact ⟨by omega, by omega, by omega, by omega, by omega, by omega⟩
  · intro i j c d hc hd hp
    have hpi := (lay_fine r 0 0 0 hok).2
    rw [hl] at hpi
    have e : pids (panesOf l) = pids l := by
      unfold pids panesOf
      rw [List.filter_filter]
      congr 1
      refine List.filter_congr fun x _ => ?_
      by_cases hx : x.k = 1 <;> simp [hx]
    rw [← hpi, ← e] at hnd
    have hk : ∀ (m : Nat) (x : Cl), (panesOf l)[m]? = some x → x.k = 1 := fun m x hx => by simpa [panesOf] using (List.mem_filter.1 (List.mem_of_getElem? hx)).2
    exact pids_unique (panesOf l) hnd i j c d hc hd (hk i c hc) (hk j d hd) hp
  · cases r; simp only [R.ok] at hok; exact ⟨hok.1.1, hok.1.2.1, hok.1.2.2.1, hok.1.2.2.2⟩

theorem place_hit {ps : List Cl} {pane : Int} {i : Nat} {c : Cl} (h : ps[i]? = some c) (hp : placeF (fun c => c.p == pane) ps = ((i : Int), true)) : c.p = pane := by
  rcases place_cases (fun c : Cl => c.p == pane) ps with ⟨j, d, h1, h2, h3⟩ | ⟨h1, _⟩
  · rw [hp] at h1
    simp only [Prod.mk.injEq, and_true] at h1
    have : i = j := by omega
    subst this
    rw [h] at h2; cases h2
    simpa using h3
  · rw [hp] at h1; simp at h1

theorem neq95_same (a : Addr) (w : World) : (binOp .neq 95 (.pointer (some a)) (.pointer (some a))).run Try.prog w = .ok (.bool false) w := by
  have h : ∀ d : Nat, (Op.equalIn (d + 1) 95 (.pointer (some a)) (.pointer (some a))).run Try.prog w = .ok true w := fun d => by
    simp [Op.equalIn, run_underlying Try.underlying95, sizeOf, typeInfo, info100', run_sameAddr_same]
  simp only [binOp]
  simp [Op.equal, Op.maxDepth, h 9999]
theorem neq95_other {b d : Nat} {ca cb : Array Value} (w : World) (hne : b ≠ d) (ha : w.heap[b]? = some (.cells ca 100 (0, 0))) (hb : w.heap[d]? = some (.cells cb 100 (0, 0))) :
    (binOp .neq 95 (.pointer (some ⟨b, 0, none⟩)) (.pointer (some ⟨d, 0, none⟩))).run Try.prog w = .ok (.bool true) w := by
  have h2 : (⟨b, 0, none⟩ : Addr) ≠ ⟨d, 0, none⟩ := by simp [hne]
  have h : ∀ k : Nat, (Op.equalIn (k + 1) 95 (.pointer (some ⟨b, 0, none⟩)) (.pointer (some ⟨d, 0, none⟩))).run Try.prog w = .ok false w := fun k => by
    simp [Op.equalIn, run_underlying Try.underlying95, sizeOf, typeInfo, info100', show Try.t100.size ≠ 0 from by decide, run_sameAddr_other w h2 ha hb]
  simp only [binOp]
  simp [Op.equal, Op.maxDepth, h 9999]

theorem cell_of_below {w w' : World} {p : Addr} {v : Value} (hb : Below w.heap.size w w') (h : w.cell? p = some v) : w'.cell? p = some v := cell_below hb h

set_option maxRecDepth 100000 in
set_option maxHeartbeats 2000000 in
theorem beside_1 (v : Value) (l : List Cl) (pane : Int) (w : World) (h : Reads w v l) (r : R) (hr : readF l = some r) (i : Nat) (c : Cl) (hfi : (panesOf l)[i]? = some c) (hpl : placeF (fun c => c.p == pane) (panesOf l) = ((i : Int), true)) :
    Calls Try.prog 48 #[v, .int .i64 pane, .int .i64 1] w fun e w' => SeenPost w (hitF (fun d => !(d.p == pane) && touchC 1 (r.ext (sideK 1)) c d) (panesOf l)) e w' := by
  have hb1 : Below w.heap.size w (w.alloc (.cells #[.int .i64 pane] 3)) := (Below.refl _ _).alloc (Nat.le_refl _) _
  have hx1 := heap_alloc_new w (.cells #[.int .i64 pane] 3)
  have HREAD := read_any v l (w.alloc (.cells #[.int .i64 pane] 3)) (h.below hb1)
  rw [hr] at HREAD
  obtain ⟨hin, huq, hwh⟩ := beside_facts hr
  have RI := read_is hr
  have hlen := RI.len
  have hcn := RI.cnt
  have hcp := place_hit hfi hpl
  have hext : r.ext (sideK 1) = ext 2 r.w r.h := rfl
  have hcI := hin c (List.mem_of_getElem? hfi)
  have HR := Lib.hid HREAD; have HIN := Lib.hid hin; have HUQ := Lib.hid huq; have HRI := Lib.hid RI; have HB1 := Lib.hid hb1; have HX1 := Lib.hid hx1; have HPL := Lib.hid hpl; have HFI := Lib.hid hfi; have HCP := Lib.hid hcp
  clear HREAD h hr RI hb1 hx1 hin huq hpl hfi hcp
  rw [hext]
  clear hext
  go_enter Try.func48, Try.ntmps48
  go_wp2_with fail
  refine HR.out.mono ?_
  rintro e w1 ⟨hb, a, rfl, hrep, hpos, _⟩
  obtain ⟨ty, hv, _⟩ := val_parts a
  have hL := leaves_any r.depth a r w1 (Nat.le_refl _) hrep HRI.out.fed (by omega)
  have hat := (lvs_ids hrep hpos).2
  have hfit := (fits_any a r 0 0 0 hrep hpos).len
  have hll := lvs_len a r hrep
  have hlp := lvs_pos a r hrep HRI.out.fed
  obtain ⟨k2, k3⟩ := hrep.wh
  have hwhere : Hid (∀ w, InvokeC Try.prog a.val "mullion/layout.where" #[] w fun e w' => e = .returned (.pointer (some ⟨a.blk, 0, none⟩)) ∧ w = w') := Lib.hid fun w => where_inv a w
  rw [HRI.out.lay] at hat hfit
  rw [hv] at hL hwhere ⊢
  have hx2 := blk_below HX1.out hb
  have hbb := HB1.out.trans (hb.mono HB1.out.size)
  have HL := Lib.hid hL; have HAT := Lib.hid hat; have HFIT := Lib.hid hfit; have HB := Lib.hid hbb; have HX2 := Lib.hid hx2; have K2 := Lib.hid k2; have K3 := Lib.hid k3
  clear hL hat hfit hb hrep hpos hv HR HRI hx2 hbb k2 k3
  generalize a.lvs = bs at *
  generalize hpe : panesOf l = ps at *
  have HPE := Lib.hid hpe; clear hpe
  generalize hn : bs.length = n at *
  have HN := Lib.hid hn; clear hn
  generalize hen : ext 2 r.w r.h = en at *
  have HEN := Lib.hid hen; clear hen
  go_wp2_with fail
  refine HL.out.mono ?_
  rintro e w2 ⟨vl, rfl, o2, hb2⟩
  obtain ⟨g, cap, rfl, hg, _⟩ := o2.form (by rw [HN.out]; exact hlp)
  have hcap := own_cap o2
  rw [HN.out] at o2 hcap ⊢
  have hcell : ∀ (j b : Nat), bs[j]? = some b → w2.cell? ⟨g, j, none⟩ = some (.pointer (some ⟨b, 0, none⟩)) := by
    intro j b hj
    have hjl := (List.getElem?_eq_some_iff.1 hj).1
    rw [o2.cellAt j (by rw [HN.out] at hjl; omega), List.getElem?_map, hj]; rfl
  have hlaf : ∀ (j b : Nat), bs[j]? = some b → ∃ d, ps[j]? = some d ∧ LeafAt w2 b d := by
    intro j b hj
    obtain ⟨d, _, h1, h2⟩ := HAT.out j b hj
    exact ⟨d, h2, blk_below h1 hb2⟩
  have hI := index92 g cap w.heap.size bs ps pane n w2 HN (by omega) (Lib.hid HFIT.out.symm) hcap.1 hcap.2 (Lib.hid hcell) (Lib.hid hlaf) (blk_cell (blk_below HX2.out hb2) 0)
  rw [HPL.out] at hI
  have hil : i < n := by rw [HFIT.out]; exact (List.getElem?_eq_some_iff.1 HFI.out).1
  have HI : Hid (Calls Try.prog 92 #[.slice (some ⟨g, 0, none⟩) n cap, .func (.func 93) #[] #[.pointer (some ⟨w.heap.size, 0, none⟩)]] w2 fun e w' => e = .returned (.int .i64 (i : Int)) ∧ ∃ m, w' = w2.drewN m) := Lib.hid hI
  have hi0 : ¬ ((i : Int) < 0) := by omega
  have hn64 : n ≤ 64 := by omega
  have HBB := Lib.hid (HB.out.trans (hb2.mono HB.out.size))
  have HCELL0 := Lib.hid hcell; have HLA0 := Lib.hid hlaf
  have K2b := Lib.hid (cell_of_below hb2 K2.out); have K3b := Lib.hid (cell_of_below hb2 K3.out)
  clear hcell hlaf hI hb2 o2 hll hlp hg HB HX2
  go_wp2_with fail
  refine HI.out.mono ?_
  rintro e w' ⟨rfl, m1, rfl⟩
  go_wp2_with fail
  generalize hw5 : w2.drewN m1 = w5
  have hh5 : w5.heap = w2.heap := by rw [← hw5]; rfl
  have hc5 : ∀ p, w5.cell? p = w2.cell? p := fun p => by rw [← hw5]; rfl
  have HBB5 : Hid (Below w.heap.size w w5) := by rw [← hw5]; exact below_drewN HBB.out _
  have HLA : Hid (∀ (j b : Nat), bs[j]? = some b → ∃ d, ps[j]? = some d ∧ LeafAt w5 b d) := by
    refine Lib.hid fun j b hj => ?_
    obtain ⟨d, h1, h2⟩ := HLA0.out j b hj
    exact ⟨d, h1, by unfold LeafAt; rw [hh5]; exact h2⟩
  have HCELL : Hid (∀ (j b : Nat), bs[j]? = some b → w5.cell? ⟨g, j, none⟩ = some (.pointer (some ⟨b, 0, none⟩))) := Lib.hid fun j b hj => by rw [hc5]; exact HCELL0.out j b hj
  obtain ⟨bi, hbi⟩ : ∃ bi, bs[i]? = some bi := ⟨bs[i]'(by rw [HN.out]; exact hil), by simp⟩
  have hci := HCELL.out i bi hbi
  have hca : LeafAt w5 bi c := by
    obtain ⟨d, h1, h2⟩ := HLA.out i bi hbi
    rw [HFI.out] at h1; cases h1; exact h2
  have k2 : w5.cell? ⟨a.blk, 2, none⟩ = some (.int .i64 r.w) := by rw [hc5]; exact K2b.out
  have k3 : w5.cell? ⟨a.blk, 3, none⟩ = some (.int .i64 r.h) := by rw [hc5]; exact K3b.out
  have hspan : ∀ (b : Nat) (d : Cl), LeafAt w5 b d → InW r.w r.h d → ∀ (k : Int) (q : Nat), Calls Try.prog 94 #[.pointer (some ⟨b, 0, none⟩), .int .i64 k] (w5.drewN q) fun e w' => e = .returned (.tuple #[.int .i64 (if k = 2 then d.x else d.y), .int .i64 (if k = 2 then d.x + d.w else d.y + d.h)]) ∧ ∃ m, w' = w5.drewN m := by
    intro b d hd ⟨i1, i2, i3, i4, i5, i6⟩ k q
    refine (span_any b 0 d.x d.y d.w d.h k (w5.drewN q) (show w5.cell? _ = _ from blk_cell hd 0) (show w5.cell? _ = _ from blk_cell hd 1) (show w5.cell? _ = _ from blk_cell hd 2) (show w5.cell? _ = _ from blk_cell hd 3) (by omega) (by omega) (by omega) (by omega) (by omega) (by omega) (by omega) (by omega)).mono ?_
    rintro e w' ⟨he, m, rfl⟩
    exact ⟨he, q + m, by rw [World.drewN_drewN]⟩
  have HSP := Lib.hid hspan
  have HSPC := Lib.hid (hspan bi c hca hcI)
  have HCA := Lib.hid hca; have HBI := Lib.hid hbi; have HW5 := Lib.hid hw5
  clear hca hspan hbi hh5 hc5 HBB HCELL0 HLA0 HI K2b K3b K2 K3 HL HAT HB1 HX1 hw5
  refine wp_region_quiet_lit (by kernel_rfl) (by kernel_rfl) ?_
  repeat (any_goals (first
    | ((with_reducible refine wpQuiet_inv0 rfl (.tmp 54) "mullion/layout.where" #[] rfl (.pointer (some ⟨a.blk, 0, none⟩)) ?_ ?_); exact hwhere.out; go_simp)
    | go_big_quiet_step ((go_at_call 70; exact quiet_sym (extent_any _ 0 r.w r.h _ _ (by exact k2) (by exact k3))))))
  refine wpQuiet_nil ?_
  intro nq1
  have hen2 : ext 2 r.w r.h = en := HEN.out
  go_wp2_with (go_at_call 94; (with_reducible refine (HSPC.out _ _).mono ?_); rintro e w' ⟨rfl, m2, rfl⟩)
  clear hen2
  obtain ⟨i1, i2, i3, i4, i5, i6⟩ := hcI
  have wc1 : IntKind.i64.wrap (c.x + c.w + 1) = c.x + c.w + 1 := by rw [IntKind.wrap_i64]; omega
  go_loopg [68] n (fun gg vi wr => ∃ j : Nat, j ≤ n ∧ gg = n - j ∧ vi = .int .i64 j ∧ Hid (∀ d ∈ ps.take j, (!(d.p == pane) && touchC 1 en c d) = false) ∧ Hid (∃ q, wr = w5.drewN q))
  case atStart => exact ⟨0, Nat.zero_le _, by omega, rfl, by show ∀ d ∈ _, _; simp, _, rfl⟩
  case round =>
    obtain ⟨j, hj, rfl, rfl, ht, hq⟩ := hrel
    obtain ⟨q, rfl⟩ := hq.out
    by_cases hlt : j < n
    · obtain ⟨b, hbj⟩ : ∃ b, bs[j]? = some b := ⟨bs[j]'(by rw [HN.out]; exact hlt), by simp⟩
      obtain ⟨d, hdj, hda⟩ := HLA.out j b hbj
      have c1 := HCELL.out j b hbj
      have hdI := HIN.out d (List.mem_of_getElem? hdj)
      have HSPD := Lib.hid (HSP.out b d hda hdI)
      have k4 : w5.cell? ⟨b, 4, none⟩ = some (.int .i64 d.p) := blk_cell hda 4
      have hself : (d.p == pane) = true → b = bi := fun hp => by
        have := HUQ.out j i d c hdj HFI.out (by rw [HCP.out]; simpa using hp)
        subst this
        have h1 := hbj.symm.trans HBI.out
        exact Option.some.inj h1
      have hother : (d.p == pane) = false → b ≠ bi := by
        rintro hp rfl
        have h1 : LeafAt w5 b c := HCA.out
        unfold LeafAt at h1 hda
        rw [h1] at hda
        simp only [Option.some.injEq, Obj.cells.injEq, Array.mk.injEq, List.cons.injEq, Value.int.injEq, true_and, and_true] at hda
        have hpp := hda.2.2.2.2
        have : c.p = pane := HCP.out
        simp only [beq_eq_false_iff_ne, ne_eq] at hp
        exact hp (hpp ▸ this)
      have hsnoc : (!(d.p == pane) && touchC 1 en c d) = false → ∀ z ∈ ps.take (j + 1), (!(z.p == pane) && touchC 1 en c z) = false := by
        intro hq
        rw [take_snoc' hdj]
        intro z hz
        rcases List.mem_append.1 hz with hz | hz
        · exact ht.out z hz
        · rw [List.mem_singleton.1 hz]; exact hq
      obtain ⟨j1, j2, j3, j4, j5, j6⟩ := hdI
      have wd1 : IntKind.i64.wrap (d.x + d.w + 1) = d.x + d.w + 1 := by rw [IntKind.wrap_i64]; omega
      have HD := Lib.hid hdj; have HSN := Lib.hid hsnoc; have HSELF := Lib.hid hself; have HOTH := Lib.hid hother; have HDA := Lib.hid hda
      clear hdj hsnoc hself hother hda hbj
      go_upto_region 17 with (go_at_call 94; (with_reducible refine (HSPD.out _ _).mono ?_); rintro e w' ⟨rfl, m3, rfl⟩)
      go_cut [20] (fun s20 wx => w5.drewN m3 = wx ∧ ∃ bb, s20 = .bool bb)
      case first =>
        cases e1 : (d.x == c.x + c.w + 1) <;> cases e2 : (c.x + c.w == en) <;> cases e3 : (d.x == 0)
        all_goals
          go_wp2_with fail
          go_meet
          case rel => exact ⟨rfl, _, rfl⟩
      obtain ⟨rfl, bb0, rfl⟩ := hcut
      go_upto_region 19 with fail
      go_cut [20] (fun s20 wx => w5.drewN m3 = wx ∧ ∃ bb, s20 = .bool bb ∧ Hid (((d.x + d.w + 1 == c.x) || ((c.x == 0) && (d.x + d.w == en))) = bb))
      case first =>
        cases e1 : (d.x + d.w + 1 == c.x) <;> cases e2 : (c.x == 0) <;> cases e3 : (d.x + d.w == en)
        all_goals
          go_wp2_with fail
          go_meet
          case rel => exact ⟨rfl, _, rfl, Lib.hid (by simp [e1, e2, e3])⟩
      obtain ⟨rfl, bb, rfl, HNEAR⟩ := hcut
      go_upto_region 22 with (go_at_call 94; first | ((with_reducible refine (HSPC.out _ _).mono ?_); rintro e w' ⟨rfl, m4, rfl⟩) | ((with_reducible refine (HSPD.out _ _).mono ?_); rintro e w' ⟨rfl, m5, rfl⟩))
      have HTE : Hid (touchC 1 en c d = (bb && decide (c.y < d.y + d.h) && decide (d.y < c.y + c.h))) := Lib.hid (by rw [← HNEAR.out]; simp [touchC, nearC, sideK, loC, hiC])
      cases hp : (d.p == pane) with
      | true =>
        have hbeq := HSELF.out hp
        subst hbeq
        have HQ : Hid ((!(d.p == pane) && touchC 1 en c d) = false) := Lib.hid (by rw [hp]; rfl)
        have HP := Lib.hid hp; clear hp
        have t9 := neq95_same
        go_wp2_with fail
        go_roundg (n - (j + 1))
        case measure => omega
        case rel => exact ⟨j + 1, hlt, rfl, num_succ j, HSN.out HQ.out, _, rfl⟩
      | false =>
        have hne := HOTH.out hp
        have t9 : ∀ q, (binOp .neq 95 (.pointer (some ⟨b, 0, none⟩)) (.pointer (some ⟨bi, 0, none⟩))).run Try.prog (w5.drewN q) = .ok (.bool true) (w5.drewN q) := fun q => neq95_other (w5.drewN q) hne (show w5.heap[b]? = _ from HDA.out) (show w5.heap[bi]? = _ from HCA.out)
        have HP := Lib.hid hp; clear hp
        by_cases g1 : c.y < d.y + d.h <;> by_cases g2 : d.y < c.y + c.h <;> cases bb
        all_goals
          have HQ := Lib.hid HTE.out
          simp only [decide_eq_true_eq, g1, g2, decide_true, decide_false, Bool.and_true, Bool.and_false, Bool.true_and, Bool.false_and] at HQ
          have HQ2 := Lib.hid (show (!(d.p == pane) && touchC 1 en c d) = _ by rw [HP.out, HQ.out])
          clear HQ
          go_wp2_with fail
          first
          | (go_roundg (n - (j + 1))
             case measure => omega
             case rel => exact ⟨j + 1, hlt, rfl, num_succ j, HSN.out HQ2.out, _, rfl⟩)
          | (go_ret2
             have hE := HEN.out
             subst hE
             exact ⟨by rw [HPE.out, hit_at ht.out HD.out HQ2.out]; rfl, below_drewN HBB5.out _⟩)
    · go_wp2_with fail
      go_ret2
      have := ht.out
      rw [List.take_of_length_le (by have := HFIT.out; omega)] at this
      have hE := HEN.out
      subst hE
      exact ⟨by rw [HPE.out, hit_none this]; rfl, below_drewN HBB5.out _⟩

set_option maxRecDepth 100000 in
set_option maxHeartbeats 2000000 in
theorem beside_2 (v : Value) (l : List Cl) (pane : Int) (w : World) (h : Reads w v l) (r : R) (hr : readF l = some r) (i : Nat) (c : Cl) (hfi : (panesOf l)[i]? = some c) (hpl : placeF (fun c => c.p == pane) (panesOf l) = ((i : Int), true)) :
    Calls Try.prog 48 #[v, .int .i64 pane, .int .i64 2] w fun e w' => SeenPost w (hitF (fun d => !(d.p == pane) && touchC 2 (r.ext (sideK 2)) c d) (panesOf l)) e w' := by
  have hb1 : Below w.heap.size w (w.alloc (.cells #[.int .i64 pane] 3)) := (Below.refl _ _).alloc (Nat.le_refl _) _
  have hx1 := heap_alloc_new w (.cells #[.int .i64 pane] 3)
  have HREAD := read_any v l (w.alloc (.cells #[.int .i64 pane] 3)) (h.below hb1)
  rw [hr] at HREAD
  obtain ⟨hin, huq, hwh⟩ := beside_facts hr
  have RI := read_is hr
  have hlen := RI.len
  have hcn := RI.cnt
  have hcp := place_hit hfi hpl
  have hext : r.ext (sideK 2) = ext 2 r.w r.h := rfl
  have hcI := hin c (List.mem_of_getElem? hfi)
  have HR := Lib.hid HREAD; have HIN := Lib.hid hin; have HUQ := Lib.hid huq; have HRI := Lib.hid RI; have HB1 := Lib.hid hb1; have HX1 := Lib.hid hx1; have HPL := Lib.hid hpl; have HFI := Lib.hid hfi; have HCP := Lib.hid hcp
  clear HREAD h hr RI hb1 hx1 hin huq hpl hfi hcp
  rw [hext]
  clear hext
  go_enter Try.func48, Try.ntmps48
  go_wp2_with fail
  refine HR.out.mono ?_
  rintro e w1 ⟨hb, a, rfl, hrep, hpos, _⟩
  obtain ⟨ty, hv, _⟩ := val_parts a
  have hL := leaves_any r.depth a r w1 (Nat.le_refl _) hrep HRI.out.fed (by omega)
  have hat := (lvs_ids hrep hpos).2
  have hfit := (fits_any a r 0 0 0 hrep hpos).len
  have hll := lvs_len a r hrep
  have hlp := lvs_pos a r hrep HRI.out.fed
  obtain ⟨k2, k3⟩ := hrep.wh
  have hwhere : Hid (∀ w, InvokeC Try.prog a.val "mullion/layout.where" #[] w fun e w' => e = .returned (.pointer (some ⟨a.blk, 0, none⟩)) ∧ w = w') := Lib.hid fun w => where_inv a w
  rw [HRI.out.lay] at hat hfit
  rw [hv] at hL hwhere ⊢
  have hx2 := blk_below HX1.out hb
  have hbb := HB1.out.trans (hb.mono HB1.out.size)
  have HL := Lib.hid hL; have HAT := Lib.hid hat; have HFIT := Lib.hid hfit; have HB := Lib.hid hbb; have HX2 := Lib.hid hx2; have K2 := Lib.hid k2; have K3 := Lib.hid k3
  clear hL hat hfit hb hrep hpos hv HR HRI hx2 hbb k2 k3
  generalize a.lvs = bs at *
  generalize hpe : panesOf l = ps at *
  have HPE := Lib.hid hpe; clear hpe
  generalize hn : bs.length = n at *
  have HN := Lib.hid hn; clear hn
  generalize hen : ext 2 r.w r.h = en at *
  have HEN := Lib.hid hen; clear hen
  go_wp2_with fail
  refine HL.out.mono ?_
  rintro e w2 ⟨vl, rfl, o2, hb2⟩
  obtain ⟨g, cap, rfl, hg, _⟩ := o2.form (by rw [HN.out]; exact hlp)
  have hcap := own_cap o2
  rw [HN.out] at o2 hcap ⊢
  have hcell : ∀ (j b : Nat), bs[j]? = some b → w2.cell? ⟨g, j, none⟩ = some (.pointer (some ⟨b, 0, none⟩)) := by
    intro j b hj
    have hjl := (List.getElem?_eq_some_iff.1 hj).1
    rw [o2.cellAt j (by rw [HN.out] at hjl; omega), List.getElem?_map, hj]; rfl
  have hlaf : ∀ (j b : Nat), bs[j]? = some b → ∃ d, ps[j]? = some d ∧ LeafAt w2 b d := by
    intro j b hj
    obtain ⟨d, _, h1, h2⟩ := HAT.out j b hj
    exact ⟨d, h2, blk_below h1 hb2⟩
  have hI := index92 g cap w.heap.size bs ps pane n w2 HN (by omega) (Lib.hid HFIT.out.symm) hcap.1 hcap.2 (Lib.hid hcell) (Lib.hid hlaf) (blk_cell (blk_below HX2.out hb2) 0)
  rw [HPL.out] at hI
  have hil : i < n := by rw [HFIT.out]; exact (List.getElem?_eq_some_iff.1 HFI.out).1
  have HI : Hid (Calls Try.prog 92 #[.slice (some ⟨g, 0, none⟩) n cap, .func (.func 93) #[] #[.pointer (some ⟨w.heap.size, 0, none⟩)]] w2 fun e w' => e = .returned (.int .i64 (i : Int)) ∧ ∃ m, w' = w2.drewN m) := Lib.hid hI
  have hi0 : ¬ ((i : Int) < 0) := by omega
  have hn64 : n ≤ 64 := by omega
  have HBB := Lib.hid (HB.out.trans (hb2.mono HB.out.size))
  have HCELL0 := Lib.hid hcell; have HLA0 := Lib.hid hlaf
  have K2b := Lib.hid (cell_of_below hb2 K2.out); have K3b := Lib.hid (cell_of_below hb2 K3.out)
  clear hcell hlaf hI hb2 o2 hll hlp hg HB HX2
  go_wp2_with fail
  refine HI.out.mono ?_
  rintro e w' ⟨rfl, m1, rfl⟩
  go_wp2_with fail
  generalize hw5 : w2.drewN m1 = w5
  have hh5 : w5.heap = w2.heap := by rw [← hw5]; rfl
  have hc5 : ∀ p, w5.cell? p = w2.cell? p := fun p => by rw [← hw5]; rfl
  have HBB5 : Hid (Below w.heap.size w w5) := by rw [← hw5]; exact below_drewN HBB.out _
  have HLA : Hid (∀ (j b : Nat), bs[j]? = some b → ∃ d, ps[j]? = some d ∧ LeafAt w5 b d) := by
    refine Lib.hid fun j b hj => ?_
    obtain ⟨d, h1, h2⟩ := HLA0.out j b hj
    exact ⟨d, h1, by unfold LeafAt; rw [hh5]; exact h2⟩
  have HCELL : Hid (∀ (j b : Nat), bs[j]? = some b → w5.cell? ⟨g, j, none⟩ = some (.pointer (some ⟨b, 0, none⟩))) := Lib.hid fun j b hj => by rw [hc5]; exact HCELL0.out j b hj
  obtain ⟨bi, hbi⟩ : ∃ bi, bs[i]? = some bi := ⟨bs[i]'(by rw [HN.out]; exact hil), by simp⟩
  have hci := HCELL.out i bi hbi
  have hca : LeafAt w5 bi c := by
    obtain ⟨d, h1, h2⟩ := HLA.out i bi hbi
    rw [HFI.out] at h1; cases h1; exact h2
  have k2 : w5.cell? ⟨a.blk, 2, none⟩ = some (.int .i64 r.w) := by rw [hc5]; exact K2b.out
  have k3 : w5.cell? ⟨a.blk, 3, none⟩ = some (.int .i64 r.h) := by rw [hc5]; exact K3b.out
  have hspan : ∀ (b : Nat) (d : Cl), LeafAt w5 b d → InW r.w r.h d → ∀ (k : Int) (q : Nat), Calls Try.prog 94 #[.pointer (some ⟨b, 0, none⟩), .int .i64 k] (w5.drewN q) fun e w' => e = .returned (.tuple #[.int .i64 (if k = 2 then d.x else d.y), .int .i64 (if k = 2 then d.x + d.w else d.y + d.h)]) ∧ ∃ m, w' = w5.drewN m := by
    intro b d hd ⟨i1, i2, i3, i4, i5, i6⟩ k q
    refine (span_any b 0 d.x d.y d.w d.h k (w5.drewN q) (show w5.cell? _ = _ from blk_cell hd 0) (show w5.cell? _ = _ from blk_cell hd 1) (show w5.cell? _ = _ from blk_cell hd 2) (show w5.cell? _ = _ from blk_cell hd 3) (by omega) (by omega) (by omega) (by omega) (by omega) (by omega) (by omega) (by omega)).mono ?_
    rintro e w' ⟨he, m, rfl⟩
    exact ⟨he, q + m, by rw [World.drewN_drewN]⟩
  have HSP := Lib.hid hspan
  have HSPC := Lib.hid (hspan bi c hca hcI)
  have HCA := Lib.hid hca; have HBI := Lib.hid hbi; have HW5 := Lib.hid hw5
  clear hca hspan hbi hh5 hc5 HBB HCELL0 HLA0 HI K2b K3b K2 K3 HL HAT HB1 HX1 hw5
  refine wp_region_quiet_lit (by kernel_rfl) (by kernel_rfl) ?_
  repeat (any_goals (first
    | ((with_reducible refine wpQuiet_inv0 rfl (.tmp 54) "mullion/layout.where" #[] rfl (.pointer (some ⟨a.blk, 0, none⟩)) ?_ ?_); exact hwhere.out; go_simp)
    | go_big_quiet_step ((go_at_call 70; exact quiet_sym (extent_any _ 0 r.w r.h _ _ (by exact k2) (by exact k3))))))
  refine wpQuiet_nil ?_
  intro nq1
  have hen2 : ext 2 r.w r.h = en := HEN.out
  go_wp2_with (go_at_call 94; (with_reducible refine (HSPC.out _ _).mono ?_); rintro e w' ⟨rfl, m2, rfl⟩)
  clear hen2
  obtain ⟨i1, i2, i3, i4, i5, i6⟩ := hcI
  have wc1 : IntKind.i64.wrap (c.x + c.w + 1) = c.x + c.w + 1 := by rw [IntKind.wrap_i64]; omega
  go_loopg [68] n (fun gg vi wr => ∃ j : Nat, j ≤ n ∧ gg = n - j ∧ vi = .int .i64 j ∧ Hid (∀ d ∈ ps.take j, (!(d.p == pane) && touchC 2 en c d) = false) ∧ Hid (∃ q, wr = w5.drewN q))
  case atStart => exact ⟨0, Nat.zero_le _, by omega, rfl, by show ∀ d ∈ _, _; simp, _, rfl⟩
  case round =>
    obtain ⟨j, hj, rfl, rfl, ht, hq⟩ := hrel
    obtain ⟨q, rfl⟩ := hq.out
    by_cases hlt : j < n
    · obtain ⟨b, hbj⟩ : ∃ b, bs[j]? = some b := ⟨bs[j]'(by rw [HN.out]; exact hlt), by simp⟩
      obtain ⟨d, hdj, hda⟩ := HLA.out j b hbj
      have c1 := HCELL.out j b hbj
      have hdI := HIN.out d (List.mem_of_getElem? hdj)
      have HSPD := Lib.hid (HSP.out b d hda hdI)
      have k4 : w5.cell? ⟨b, 4, none⟩ = some (.int .i64 d.p) := blk_cell hda 4
      have hself : (d.p == pane) = true → b = bi := fun hp => by
        have := HUQ.out j i d c hdj HFI.out (by rw [HCP.out]; simpa using hp)
        subst this
        have h1 := hbj.symm.trans HBI.out
        exact Option.some.inj h1
      have hother : (d.p == pane) = false → b ≠ bi := by
        rintro hp rfl
        have h1 : LeafAt w5 b c := HCA.out
        unfold LeafAt at h1 hda
        rw [h1] at hda
        simp only [Option.some.injEq, Obj.cells.injEq, Array.mk.injEq, List.cons.injEq, Value.int.injEq, true_and, and_true] at hda
        have hpp := hda.2.2.2.2
        have : c.p = pane := HCP.out
        simp only [beq_eq_false_iff_ne, ne_eq] at hp
        exact hp (hpp ▸ this)
      have hsnoc : (!(d.p == pane) && touchC 2 en c d) = false → ∀ z ∈ ps.take (j + 1), (!(z.p == pane) && touchC 2 en c z) = false := by
        intro hq
        rw [take_snoc' hdj]
        intro z hz
        rcases List.mem_append.1 hz with hz | hz
        · exact ht.out z hz
        · rw [List.mem_singleton.1 hz]; exact hq
      obtain ⟨j1, j2, j3, j4, j5, j6⟩ := hdI
      have wd1 : IntKind.i64.wrap (d.x + d.w + 1) = d.x + d.w + 1 := by rw [IntKind.wrap_i64]; omega
      have HD := Lib.hid hdj; have HSN := Lib.hid hsnoc; have HSELF := Lib.hid hself; have HOTH := Lib.hid hother; have HDA := Lib.hid hda
      clear hdj hsnoc hself hother hda hbj
      go_upto_region 17 with (go_at_call 94; (with_reducible refine (HSPD.out _ _).mono ?_); rintro e w' ⟨rfl, m3, rfl⟩)
      go_cut [20] (fun s20 wx => w5.drewN m3 = wx ∧ ∃ bb, s20 = .bool bb ∧ Hid (((d.x == c.x + c.w + 1) || ((c.x + c.w == en) && (d.x == 0))) = bb))
      case first =>
        cases e1 : (d.x == c.x + c.w + 1) <;> cases e2 : (c.x + c.w == en) <;> cases e3 : (d.x == 0)
        all_goals
          go_wp2_with fail
          go_meet
          case rel => exact ⟨rfl, _, rfl, Lib.hid (by simp [e1, e2, e3])⟩
      obtain ⟨rfl, bb, rfl, HNEAR⟩ := hcut
      go_upto_region 22 with (go_at_call 94; first | ((with_reducible refine (HSPC.out _ _).mono ?_); rintro e w' ⟨rfl, m4, rfl⟩) | ((with_reducible refine (HSPD.out _ _).mono ?_); rintro e w' ⟨rfl, m5, rfl⟩))
      have HTE : Hid (touchC 2 en c d = (bb && decide (c.y < d.y + d.h) && decide (d.y < c.y + c.h))) := Lib.hid (by rw [← HNEAR.out]; simp [touchC, nearC, sideK, loC, hiC])
      cases hp : (d.p == pane) with
      | true =>
        have hbeq := HSELF.out hp
        subst hbeq
        have HQ : Hid ((!(d.p == pane) && touchC 2 en c d) = false) := Lib.hid (by rw [hp]; rfl)
        have HP := Lib.hid hp; clear hp
        have t9 := neq95_same
        go_wp2_with fail
        go_roundg (n - (j + 1))
        case measure => omega
        case rel => exact ⟨j + 1, hlt, rfl, num_succ j, HSN.out HQ.out, _, rfl⟩
      | false =>
        have hne := HOTH.out hp
        have t9 : ∀ q, (binOp .neq 95 (.pointer (some ⟨b, 0, none⟩)) (.pointer (some ⟨bi, 0, none⟩))).run Try.prog (w5.drewN q) = .ok (.bool true) (w5.drewN q) := fun q => neq95_other (w5.drewN q) hne (show w5.heap[b]? = _ from HDA.out) (show w5.heap[bi]? = _ from HCA.out)
        have HP := Lib.hid hp; clear hp
        by_cases g1 : c.y < d.y + d.h <;> by_cases g2 : d.y < c.y + c.h <;> cases bb
        all_goals
          have HQ := Lib.hid HTE.out
          simp only [decide_eq_true_eq, g1, g2, decide_true, decide_false, Bool.and_true, Bool.and_false, Bool.true_and, Bool.false_and] at HQ
          have HQ2 := Lib.hid (show (!(d.p == pane) && touchC 2 en c d) = _ by rw [HP.out, HQ.out])
          clear HQ
          go_wp2_with fail
          first
          | (go_roundg (n - (j + 1))
             case measure => omega
             case rel => exact ⟨j + 1, hlt, rfl, num_succ j, HSN.out HQ2.out, _, rfl⟩)
          | (go_ret2
             have hE := HEN.out
             subst hE
             exact ⟨by rw [HPE.out, hit_at ht.out HD.out HQ2.out]; rfl, below_drewN HBB5.out _⟩)
    · go_wp2_with fail
      go_ret2
      have := ht.out
      rw [List.take_of_length_le (by have := HFIT.out; omega)] at this
      have hE := HEN.out
      subst hE
      exact ⟨by rw [HPE.out, hit_none this]; rfl, below_drewN HBB5.out _⟩

set_option maxRecDepth 100000 in
set_option maxHeartbeats 2000000 in
theorem beside_3 (v : Value) (l : List Cl) (pane : Int) (w : World) (h : Reads w v l) (r : R) (hr : readF l = some r) (i : Nat) (c : Cl) (hfi : (panesOf l)[i]? = some c) (hpl : placeF (fun c => c.p == pane) (panesOf l) = ((i : Int), true)) :
    Calls Try.prog 48 #[v, .int .i64 pane, .int .i64 3] w fun e w' => SeenPost w (hitF (fun d => !(d.p == pane) && touchC 3 (r.ext (sideK 3)) c d) (panesOf l)) e w' := by
  have hb1 : Below w.heap.size w (w.alloc (.cells #[.int .i64 pane] 3)) := (Below.refl _ _).alloc (Nat.le_refl _) _
  have hx1 := heap_alloc_new w (.cells #[.int .i64 pane] 3)
  have HREAD := read_any v l (w.alloc (.cells #[.int .i64 pane] 3)) (h.below hb1)
  rw [hr] at HREAD
  obtain ⟨hin, huq, hwh⟩ := beside_facts hr
  have RI := read_is hr
  have hlen := RI.len
  have hcn := RI.cnt
  have hcp := place_hit hfi hpl
  have hext : r.ext (sideK 3) = ext 3 r.w r.h := rfl
  have hcI := hin c (List.mem_of_getElem? hfi)
  have HR := Lib.hid HREAD; have HIN := Lib.hid hin; have HUQ := Lib.hid huq; have HRI := Lib.hid RI; have HB1 := Lib.hid hb1; have HX1 := Lib.hid hx1; have HPL := Lib.hid hpl; have HFI := Lib.hid hfi; have HCP := Lib.hid hcp
  clear HREAD h hr RI hb1 hx1 hin huq hpl hfi hcp
  rw [hext]
  clear hext
  go_enter Try.func48, Try.ntmps48
  go_wp2_with fail
  refine HR.out.mono ?_
  rintro e w1 ⟨hb, a, rfl, hrep, hpos, _⟩
  obtain ⟨ty, hv, _⟩ := val_parts a
  have hL := leaves_any r.depth a r w1 (Nat.le_refl _) hrep HRI.out.fed (by omega)
  have hat := (lvs_ids hrep hpos).2
  have hfit := (fits_any a r 0 0 0 hrep hpos).len
  have hll := lvs_len a r hrep
  have hlp := lvs_pos a r hrep HRI.out.fed
  obtain ⟨k2, k3⟩ := hrep.wh
  have hwhere : Hid (∀ w, InvokeC Try.prog a.val "mullion/layout.where" #[] w fun e w' => e = .returned (.pointer (some ⟨a.blk, 0, none⟩)) ∧ w = w') := Lib.hid fun w => where_inv a w
  rw [HRI.out.lay] at hat hfit
  rw [hv] at hL hwhere ⊢
  have hx2 := blk_below HX1.out hb
  have hbb := HB1.out.trans (hb.mono HB1.out.size)
  have HL := Lib.hid hL; have HAT := Lib.hid hat; have HFIT := Lib.hid hfit; have HB := Lib.hid hbb; have HX2 := Lib.hid hx2; have K2 := Lib.hid k2; have K3 := Lib.hid k3
  clear hL hat hfit hb hrep hpos hv HR HRI hx2 hbb k2 k3
  generalize a.lvs = bs at *
  generalize hpe : panesOf l = ps at *
  have HPE := Lib.hid hpe; clear hpe
  generalize hn : bs.length = n at *
  have HN := Lib.hid hn; clear hn
  generalize hen : ext 3 r.w r.h = en at *
  have HEN := Lib.hid hen; clear hen
  go_wp2_with fail
  refine HL.out.mono ?_
  rintro e w2 ⟨vl, rfl, o2, hb2⟩
  obtain ⟨g, cap, rfl, hg, _⟩ := o2.form (by rw [HN.out]; exact hlp)
  have hcap := own_cap o2
  rw [HN.out] at o2 hcap ⊢
  have hcell : ∀ (j b : Nat), bs[j]? = some b → w2.cell? ⟨g, j, none⟩ = some (.pointer (some ⟨b, 0, none⟩)) := by
    intro j b hj
    have hjl := (List.getElem?_eq_some_iff.1 hj).1
    rw [o2.cellAt j (by rw [HN.out] at hjl; omega), List.getElem?_map, hj]; rfl
  have hlaf : ∀ (j b : Nat), bs[j]? = some b → ∃ d, ps[j]? = some d ∧ LeafAt w2 b d := by
    intro j b hj
    obtain ⟨d, _, h1, h2⟩ := HAT.out j b hj
    exact ⟨d, h2, blk_below h1 hb2⟩
  have hI := index92 g cap w.heap.size bs ps pane n w2 HN (by omega) (Lib.hid HFIT.out.symm) hcap.1 hcap.2 (Lib.hid hcell) (Lib.hid hlaf) (blk_cell (blk_below HX2.out hb2) 0)
  rw [HPL.out] at hI
  have hil : i < n := by rw [HFIT.out]; exact (List.getElem?_eq_some_iff.1 HFI.out).1
  have HI : Hid (Calls Try.prog 92 #[.slice (some ⟨g, 0, none⟩) n cap, .func (.func 93) #[] #[.pointer (some ⟨w.heap.size, 0, none⟩)]] w2 fun e w' => e = .returned (.int .i64 (i : Int)) ∧ ∃ m, w' = w2.drewN m) := Lib.hid hI
  have hi0 : ¬ ((i : Int) < 0) := by omega
  have hn64 : n ≤ 64 := by omega
  have HBB := Lib.hid (HB.out.trans (hb2.mono HB.out.size))
  have HCELL0 := Lib.hid hcell; have HLA0 := Lib.hid hlaf
  have K2b := Lib.hid (cell_of_below hb2 K2.out); have K3b := Lib.hid (cell_of_below hb2 K3.out)
  clear hcell hlaf hI hb2 o2 hll hlp hg HB HX2
  go_wp2_with fail
  refine HI.out.mono ?_
  rintro e w' ⟨rfl, m1, rfl⟩
  go_wp2_with fail
  generalize hw5 : w2.drewN m1 = w5
  have hh5 : w5.heap = w2.heap := by rw [← hw5]; rfl
  have hc5 : ∀ p, w5.cell? p = w2.cell? p := fun p => by rw [← hw5]; rfl
  have HBB5 : Hid (Below w.heap.size w w5) := by rw [← hw5]; exact below_drewN HBB.out _
  have HLA : Hid (∀ (j b : Nat), bs[j]? = some b → ∃ d, ps[j]? = some d ∧ LeafAt w5 b d) := by
    refine Lib.hid fun j b hj => ?_
    obtain ⟨d, h1, h2⟩ := HLA0.out j b hj
    exact ⟨d, h1, by unfold LeafAt; rw [hh5]; exact h2⟩
  have HCELL : Hid (∀ (j b : Nat), bs[j]? = some b → w5.cell? ⟨g, j, none⟩ = some (.pointer (some ⟨b, 0, none⟩))) := Lib.hid fun j b hj => by rw [hc5]; exact HCELL0.out j b hj
  obtain ⟨bi, hbi⟩ : ∃ bi, bs[i]? = some bi := ⟨bs[i]'(by rw [HN.out]; exact hil), by simp⟩
  have hci := HCELL.out i bi hbi
  have hca : LeafAt w5 bi c := by
    obtain ⟨d, h1, h2⟩ := HLA.out i bi hbi
    rw [HFI.out] at h1; cases h1; exact h2
  have k2 : w5.cell? ⟨a.blk, 2, none⟩ = some (.int .i64 r.w) := by rw [hc5]; exact K2b.out
  have k3 : w5.cell? ⟨a.blk, 3, none⟩ = some (.int .i64 r.h) := by rw [hc5]; exact K3b.out
  have hspan : ∀ (b : Nat) (d : Cl), LeafAt w5 b d → InW r.w r.h d → ∀ (k : Int) (q : Nat), Calls Try.prog 94 #[.pointer (some ⟨b, 0, none⟩), .int .i64 k] (w5.drewN q) fun e w' => e = .returned (.tuple #[.int .i64 (if k = 2 then d.x else d.y), .int .i64 (if k = 2 then d.x + d.w else d.y + d.h)]) ∧ ∃ m, w' = w5.drewN m := by
    intro b d hd ⟨i1, i2, i3, i4, i5, i6⟩ k q
    refine (span_any b 0 d.x d.y d.w d.h k (w5.drewN q) (show w5.cell? _ = _ from blk_cell hd 0) (show w5.cell? _ = _ from blk_cell hd 1) (show w5.cell? _ = _ from blk_cell hd 2) (show w5.cell? _ = _ from blk_cell hd 3) (by omega) (by omega) (by omega) (by omega) (by omega) (by omega) (by omega) (by omega)).mono ?_
    rintro e w' ⟨he, m, rfl⟩
    exact ⟨he, q + m, by rw [World.drewN_drewN]⟩
  have HSP := Lib.hid hspan
  have HSPC := Lib.hid (hspan bi c hca hcI)
  have HCA := Lib.hid hca; have HBI := Lib.hid hbi; have HW5 := Lib.hid hw5
  clear hca hspan hbi hh5 hc5 HBB HCELL0 HLA0 HI K2b K3b K2 K3 HL HAT HB1 HX1 hw5
  refine wp_region_quiet_lit (by kernel_rfl) (by kernel_rfl) ?_
  repeat (any_goals (first
    | ((with_reducible refine wpQuiet_inv0 rfl (.tmp 54) "mullion/layout.where" #[] rfl (.pointer (some ⟨a.blk, 0, none⟩)) ?_ ?_); exact hwhere.out; go_simp)
    | go_big_quiet_step ((go_at_call 70; exact quiet_sym (extent_any _ 0 r.w r.h _ _ (by exact k2) (by exact k3))))))
  refine wpQuiet_nil ?_
  intro nq1
  have hen2 : ext 3 r.w r.h = en := HEN.out
  go_wp2_with (go_at_call 94; (with_reducible refine (HSPC.out _ _).mono ?_); rintro e w' ⟨rfl, m2, rfl⟩)
  clear hen2
  obtain ⟨i1, i2, i3, i4, i5, i6⟩ := hcI
  have wc1 : IntKind.i64.wrap (c.y + c.h + 1) = c.y + c.h + 1 := by rw [IntKind.wrap_i64]; omega
  go_loopg [68] n (fun gg vi wr => ∃ j : Nat, j ≤ n ∧ gg = n - j ∧ vi = .int .i64 j ∧ Hid (∀ d ∈ ps.take j, (!(d.p == pane) && touchC 3 en c d) = false) ∧ Hid (∃ q, wr = w5.drewN q))
  case atStart => exact ⟨0, Nat.zero_le _, by omega, rfl, by show ∀ d ∈ _, _; simp, _, rfl⟩
  case round =>
    obtain ⟨j, hj, rfl, rfl, ht, hq⟩ := hrel
    obtain ⟨q, rfl⟩ := hq.out
    by_cases hlt : j < n
    · obtain ⟨b, hbj⟩ : ∃ b, bs[j]? = some b := ⟨bs[j]'(by rw [HN.out]; exact hlt), by simp⟩
      obtain ⟨d, hdj, hda⟩ := HLA.out j b hbj
      have c1 := HCELL.out j b hbj
      have hdI := HIN.out d (List.mem_of_getElem? hdj)
      have HSPD := Lib.hid (HSP.out b d hda hdI)
      have k4 : w5.cell? ⟨b, 4, none⟩ = some (.int .i64 d.p) := blk_cell hda 4
      have hself : (d.p == pane) = true → b = bi := fun hp => by
        have := HUQ.out j i d c hdj HFI.out (by rw [HCP.out]; simpa using hp)
        subst this
        have h1 := hbj.symm.trans HBI.out
        exact Option.some.inj h1
      have hother : (d.p == pane) = false → b ≠ bi := by
        rintro hp rfl
        have h1 : LeafAt w5 b c := HCA.out
        unfold LeafAt at h1 hda
        rw [h1] at hda
        simp only [Option.some.injEq, Obj.cells.injEq, Array.mk.injEq, List.cons.injEq, Value.int.injEq, true_and, and_true] at hda
        have hpp := hda.2.2.2.2
        have : c.p = pane := HCP.out
        simp only [beq_eq_false_iff_ne, ne_eq] at hp
        exact hp (hpp ▸ this)
      have hsnoc : (!(d.p == pane) && touchC 3 en c d) = false → ∀ z ∈ ps.take (j + 1), (!(z.p == pane) && touchC 3 en c z) = false := by
        intro hq
        rw [take_snoc' hdj]
        intro z hz
        rcases List.mem_append.1 hz with hz | hz
        · exact ht.out z hz
        · rw [List.mem_singleton.1 hz]; exact hq
      obtain ⟨j1, j2, j3, j4, j5, j6⟩ := hdI
      have wd1 : IntKind.i64.wrap (d.y + d.h + 1) = d.y + d.h + 1 := by rw [IntKind.wrap_i64]; omega
      have HD := Lib.hid hdj; have HSN := Lib.hid hsnoc; have HSELF := Lib.hid hself; have HOTH := Lib.hid hother; have HDA := Lib.hid hda
      clear hdj hsnoc hself hother hda hbj
      go_upto_region 17 with (go_at_call 94; (with_reducible refine (HSPD.out _ _).mono ?_); rintro e w' ⟨rfl, m3, rfl⟩)
      go_cut [20] (fun s20 wx => w5.drewN m3 = wx ∧ ∃ bb, s20 = .bool bb)
      case first =>
        cases e1 : (d.y == c.y + c.h + 1) <;> cases e2 : (c.y + c.h == en) <;> cases e3 : (d.y == 0)
        all_goals
          go_wp2_with fail
          go_meet
          case rel => exact ⟨rfl, _, rfl⟩
      obtain ⟨rfl, bb0, rfl⟩ := hcut
      go_upto_region 19 with fail
      go_cut [20] (fun s20 wx => w5.drewN m3 = wx ∧ ∃ bb, s20 = .bool bb ∧ Hid (((d.y + d.h + 1 == c.y) || ((c.y == 0) && (d.y + d.h == en))) = bb))
      case first =>
        cases e1 : (d.y + d.h + 1 == c.y) <;> cases e2 : (c.y == 0) <;> cases e3 : (d.y + d.h == en)
        all_goals
          go_wp2_with fail
          go_meet
          case rel => exact ⟨rfl, _, rfl, Lib.hid (by simp [e1, e2, e3])⟩
      obtain ⟨rfl, bb, rfl, HNEAR⟩ := hcut
      go_upto_region 22 with (go_at_call 94; first | ((with_reducible refine (HSPC.out _ _).mono ?_); rintro e w' ⟨rfl, m4, rfl⟩) | ((with_reducible refine (HSPD.out _ _).mono ?_); rintro e w' ⟨rfl, m5, rfl⟩))
      have HTE : Hid (touchC 3 en c d = (bb && decide (c.x < d.x + d.w) && decide (d.x < c.x + c.w))) := Lib.hid (by rw [← HNEAR.out]; simp [touchC, nearC, sideK, loC, hiC])
      cases hp : (d.p == pane) with
      | true =>
        have hbeq := HSELF.out hp
        subst hbeq
        have HQ : Hid ((!(d.p == pane) && touchC 3 en c d) = false) := Lib.hid (by rw [hp]; rfl)
        have HP := Lib.hid hp; clear hp
        have t9 := neq95_same
        go_wp2_with fail
        go_roundg (n - (j + 1))
        case measure => omega
        case rel => exact ⟨j + 1, hlt, rfl, num_succ j, HSN.out HQ.out, _, rfl⟩
      | false =>
        have hne := HOTH.out hp
        have t9 : ∀ q, (binOp .neq 95 (.pointer (some ⟨b, 0, none⟩)) (.pointer (some ⟨bi, 0, none⟩))).run Try.prog (w5.drewN q) = .ok (.bool true) (w5.drewN q) := fun q => neq95_other (w5.drewN q) hne (show w5.heap[b]? = _ from HDA.out) (show w5.heap[bi]? = _ from HCA.out)
        have HP := Lib.hid hp; clear hp
        by_cases g1 : c.x < d.x + d.w <;> by_cases g2 : d.x < c.x + c.w <;> cases bb
        all_goals
          have HQ := Lib.hid HTE.out
          simp only [decide_eq_true_eq, g1, g2, decide_true, decide_false, Bool.and_true, Bool.and_false, Bool.true_and, Bool.false_and] at HQ
          have HQ2 := Lib.hid (show (!(d.p == pane) && touchC 3 en c d) = _ by rw [HP.out, HQ.out])
          clear HQ
          go_wp2_with fail
          first
          | (go_roundg (n - (j + 1))
             case measure => omega
             case rel => exact ⟨j + 1, hlt, rfl, num_succ j, HSN.out HQ2.out, _, rfl⟩)
          | (go_ret2
             have hE := HEN.out
             subst hE
             exact ⟨by rw [HPE.out, hit_at ht.out HD.out HQ2.out]; rfl, below_drewN HBB5.out _⟩)
    · go_wp2_with fail
      go_ret2
      have := ht.out
      rw [List.take_of_length_le (by have := HFIT.out; omega)] at this
      have hE := HEN.out
      subst hE
      exact ⟨by rw [HPE.out, hit_none this]; rfl, below_drewN HBB5.out _⟩

set_option maxRecDepth 100000 in
set_option maxHeartbeats 2000000 in
theorem beside_4 (v : Value) (l : List Cl) (pane : Int) (w : World) (h : Reads w v l) (r : R) (hr : readF l = some r) (i : Nat) (c : Cl) (hfi : (panesOf l)[i]? = some c) (hpl : placeF (fun c => c.p == pane) (panesOf l) = ((i : Int), true)) :
    Calls Try.prog 48 #[v, .int .i64 pane, .int .i64 4] w fun e w' => SeenPost w (hitF (fun d => !(d.p == pane) && touchC 4 (r.ext (sideK 4)) c d) (panesOf l)) e w' := by
  have hb1 : Below w.heap.size w (w.alloc (.cells #[.int .i64 pane] 3)) := (Below.refl _ _).alloc (Nat.le_refl _) _
  have hx1 := heap_alloc_new w (.cells #[.int .i64 pane] 3)
  have HREAD := read_any v l (w.alloc (.cells #[.int .i64 pane] 3)) (h.below hb1)
  rw [hr] at HREAD
  obtain ⟨hin, huq, hwh⟩ := beside_facts hr
  have RI := read_is hr
  have hlen := RI.len
  have hcn := RI.cnt
  have hcp := place_hit hfi hpl
  have hext : r.ext (sideK 4) = ext 3 r.w r.h := rfl
  have hcI := hin c (List.mem_of_getElem? hfi)
  have HR := Lib.hid HREAD; have HIN := Lib.hid hin; have HUQ := Lib.hid huq; have HRI := Lib.hid RI; have HB1 := Lib.hid hb1; have HX1 := Lib.hid hx1; have HPL := Lib.hid hpl; have HFI := Lib.hid hfi; have HCP := Lib.hid hcp
  clear HREAD h hr RI hb1 hx1 hin huq hpl hfi hcp
  rw [hext]
  clear hext
  go_enter Try.func48, Try.ntmps48
  go_wp2_with fail
  refine HR.out.mono ?_
  rintro e w1 ⟨hb, a, rfl, hrep, hpos, _⟩
  obtain ⟨ty, hv, _⟩ := val_parts a
  have hL := leaves_any r.depth a r w1 (Nat.le_refl _) hrep HRI.out.fed (by omega)
  have hat := (lvs_ids hrep hpos).2
  have hfit := (fits_any a r 0 0 0 hrep hpos).len
  have hll := lvs_len a r hrep
  have hlp := lvs_pos a r hrep HRI.out.fed
  obtain ⟨k2, k3⟩ := hrep.wh
  have hwhere : Hid (∀ w, InvokeC Try.prog a.val "mullion/layout.where" #[] w fun e w' => e = .returned (.pointer (some ⟨a.blk, 0, none⟩)) ∧ w = w') := Lib.hid fun w => where_inv a w
  rw [HRI.out.lay] at hat hfit
  rw [hv] at hL hwhere ⊢
  have hx2 := blk_below HX1.out hb
  have hbb := HB1.out.trans (hb.mono HB1.out.size)
  have HL := Lib.hid hL; have HAT := Lib.hid hat; have HFIT := Lib.hid hfit; have HB := Lib.hid hbb; have HX2 := Lib.hid hx2; have K2 := Lib.hid k2; have K3 := Lib.hid k3
  clear hL hat hfit hb hrep hpos hv HR HRI hx2 hbb k2 k3
  generalize a.lvs = bs at *
  generalize hpe : panesOf l = ps at *
  have HPE := Lib.hid hpe; clear hpe
  generalize hn : bs.length = n at *
  have HN := Lib.hid hn; clear hn
  generalize hen : ext 3 r.w r.h = en at *
  have HEN := Lib.hid hen; clear hen
  go_wp2_with fail
  refine HL.out.mono ?_
  rintro e w2 ⟨vl, rfl, o2, hb2⟩
  obtain ⟨g, cap, rfl, hg, _⟩ := o2.form (by rw [HN.out]; exact hlp)
  have hcap := own_cap o2
  rw [HN.out] at o2 hcap ⊢
  have hcell : ∀ (j b : Nat), bs[j]? = some b → w2.cell? ⟨g, j, none⟩ = some (.pointer (some ⟨b, 0, none⟩)) := by
    intro j b hj
    have hjl := (List.getElem?_eq_some_iff.1 hj).1
    rw [o2.cellAt j (by rw [HN.out] at hjl; omega), List.getElem?_map, hj]; rfl
  have hlaf : ∀ (j b : Nat), bs[j]? = some b → ∃ d, ps[j]? = some d ∧ LeafAt w2 b d := by
    intro j b hj
    obtain ⟨d, _, h1, h2⟩ := HAT.out j b hj
    exact ⟨d, h2, blk_below h1 hb2⟩
  have hI := index92 g cap w.heap.size bs ps pane n w2 HN (by omega) (Lib.hid HFIT.out.symm) hcap.1 hcap.2 (Lib.hid hcell) (Lib.hid hlaf) (blk_cell (blk_below HX2.out hb2) 0)
  rw [HPL.out] at hI
  have hil : i < n := by rw [HFIT.out]; exact (List.getElem?_eq_some_iff.1 HFI.out).1
  have HI : Hid (Calls Try.prog 92 #[.slice (some ⟨g, 0, none⟩) n cap, .func (.func 93) #[] #[.pointer (some ⟨w.heap.size, 0, none⟩)]] w2 fun e w' => e = .returned (.int .i64 (i : Int)) ∧ ∃ m, w' = w2.drewN m) := Lib.hid hI
  have hi0 : ¬ ((i : Int) < 0) := by omega
  have hn64 : n ≤ 64 := by omega
  have HBB := Lib.hid (HB.out.trans (hb2.mono HB.out.size))
  have HCELL0 := Lib.hid hcell; have HLA0 := Lib.hid hlaf
  have K2b := Lib.hid (cell_of_below hb2 K2.out); have K3b := Lib.hid (cell_of_below hb2 K3.out)
  clear hcell hlaf hI hb2 o2 hll hlp hg HB HX2
  go_wp2_with fail
  refine HI.out.mono ?_
  rintro e w' ⟨rfl, m1, rfl⟩
  go_wp2_with fail
  generalize hw5 : w2.drewN m1 = w5
  have hh5 : w5.heap = w2.heap := by rw [← hw5]; rfl
  have hc5 : ∀ p, w5.cell? p = w2.cell? p := fun p => by rw [← hw5]; rfl
  have HBB5 : Hid (Below w.heap.size w w5) := by rw [← hw5]; exact below_drewN HBB.out _
  have HLA : Hid (∀ (j b : Nat), bs[j]? = some b → ∃ d, ps[j]? = some d ∧ LeafAt w5 b d) := by
    refine Lib.hid fun j b hj => ?_
    obtain ⟨d, h1, h2⟩ := HLA0.out j b hj
    exact ⟨d, h1, by unfold LeafAt; rw [hh5]; exact h2⟩
  have HCELL : Hid (∀ (j b : Nat), bs[j]? = some b → w5.cell? ⟨g, j, none⟩ = some (.pointer (some ⟨b, 0, none⟩))) := Lib.hid fun j b hj => by rw [hc5]; exact HCELL0.out j b hj
  obtain ⟨bi, hbi⟩ : ∃ bi, bs[i]? = some bi := ⟨bs[i]'(by rw [HN.out]; exact hil), by simp⟩
  have hci := HCELL.out i bi hbi
  have hca : LeafAt w5 bi c := by
    obtain ⟨d, h1, h2⟩ := HLA.out i bi hbi
    rw [HFI.out] at h1; cases h1; exact h2
  have k2 : w5.cell? ⟨a.blk, 2, none⟩ = some (.int .i64 r.w) := by rw [hc5]; exact K2b.out
  have k3 : w5.cell? ⟨a.blk, 3, none⟩ = some (.int .i64 r.h) := by rw [hc5]; exact K3b.out
  have hspan : ∀ (b : Nat) (d : Cl), LeafAt w5 b d → InW r.w r.h d → ∀ (k : Int) (q : Nat), Calls Try.prog 94 #[.pointer (some ⟨b, 0, none⟩), .int .i64 k] (w5.drewN q) fun e w' => e = .returned (.tuple #[.int .i64 (if k = 2 then d.x else d.y), .int .i64 (if k = 2 then d.x + d.w else d.y + d.h)]) ∧ ∃ m, w' = w5.drewN m := by
    intro b d hd ⟨i1, i2, i3, i4, i5, i6⟩ k q
    refine (span_any b 0 d.x d.y d.w d.h k (w5.drewN q) (show w5.cell? _ = _ from blk_cell hd 0) (show w5.cell? _ = _ from blk_cell hd 1) (show w5.cell? _ = _ from blk_cell hd 2) (show w5.cell? _ = _ from blk_cell hd 3) (by omega) (by omega) (by omega) (by omega) (by omega) (by omega) (by omega) (by omega)).mono ?_
    rintro e w' ⟨he, m, rfl⟩
    exact ⟨he, q + m, by rw [World.drewN_drewN]⟩
  have HSP := Lib.hid hspan
  have HSPC := Lib.hid (hspan bi c hca hcI)
  have HCA := Lib.hid hca; have HBI := Lib.hid hbi; have HW5 := Lib.hid hw5
  clear hca hspan hbi hh5 hc5 HBB HCELL0 HLA0 HI K2b K3b K2 K3 HL HAT HB1 HX1 hw5
  refine wp_region_quiet_lit (by kernel_rfl) (by kernel_rfl) ?_
  repeat (any_goals (first
    | ((with_reducible refine wpQuiet_inv0 rfl (.tmp 54) "mullion/layout.where" #[] rfl (.pointer (some ⟨a.blk, 0, none⟩)) ?_ ?_); exact hwhere.out; go_simp)
    | go_big_quiet_step ((go_at_call 70; exact quiet_sym (extent_any _ 0 r.w r.h _ _ (by exact k2) (by exact k3))))))
  refine wpQuiet_nil ?_
  intro nq1
  have hen2 : ext 3 r.w r.h = en := HEN.out
  go_wp2_with (go_at_call 94; (with_reducible refine (HSPC.out _ _).mono ?_); rintro e w' ⟨rfl, m2, rfl⟩)
  clear hen2
  obtain ⟨i1, i2, i3, i4, i5, i6⟩ := hcI
  have wc1 : IntKind.i64.wrap (c.y + c.h + 1) = c.y + c.h + 1 := by rw [IntKind.wrap_i64]; omega
  go_loopg [68] n (fun gg vi wr => ∃ j : Nat, j ≤ n ∧ gg = n - j ∧ vi = .int .i64 j ∧ Hid (∀ d ∈ ps.take j, (!(d.p == pane) && touchC 4 en c d) = false) ∧ Hid (∃ q, wr = w5.drewN q))
  case atStart => exact ⟨0, Nat.zero_le _, by omega, rfl, by show ∀ d ∈ _, _; simp, _, rfl⟩
  case round =>
    obtain ⟨j, hj, rfl, rfl, ht, hq⟩ := hrel
    obtain ⟨q, rfl⟩ := hq.out
    by_cases hlt : j < n
    · obtain ⟨b, hbj⟩ : ∃ b, bs[j]? = some b := ⟨bs[j]'(by rw [HN.out]; exact hlt), by simp⟩
      obtain ⟨d, hdj, hda⟩ := HLA.out j b hbj
      have c1 := HCELL.out j b hbj
      have hdI := HIN.out d (List.mem_of_getElem? hdj)
      have HSPD := Lib.hid (HSP.out b d hda hdI)
      have k4 : w5.cell? ⟨b, 4, none⟩ = some (.int .i64 d.p) := blk_cell hda 4
      have hself : (d.p == pane) = true → b = bi := fun hp => by
        have := HUQ.out j i d c hdj HFI.out (by rw [HCP.out]; simpa using hp)
        subst this
        have h1 := hbj.symm.trans HBI.out
        exact Option.some.inj h1
      have hother : (d.p == pane) = false → b ≠ bi := by
        rintro hp rfl
        have h1 : LeafAt w5 b c := HCA.out
        unfold LeafAt at h1 hda
        rw [h1] at hda
        simp only [Option.some.injEq, Obj.cells.injEq, Array.mk.injEq, List.cons.injEq, Value.int.injEq, true_and, and_true] at hda
        have hpp := hda.2.2.2.2
        have : c.p = pane := HCP.out
        simp only [beq_eq_false_iff_ne, ne_eq] at hp
        exact hp (hpp ▸ this)
      have hsnoc : (!(d.p == pane) && touchC 4 en c d) = false → ∀ z ∈ ps.take (j + 1), (!(z.p == pane) && touchC 4 en c z) = false := by
        intro hq
        rw [take_snoc' hdj]
        intro z hz
        rcases List.mem_append.1 hz with hz | hz
        · exact ht.out z hz
        · rw [List.mem_singleton.1 hz]; exact hq
      obtain ⟨j1, j2, j3, j4, j5, j6⟩ := hdI
      have wd1 : IntKind.i64.wrap (d.y + d.h + 1) = d.y + d.h + 1 := by rw [IntKind.wrap_i64]; omega
      have HD := Lib.hid hdj; have HSN := Lib.hid hsnoc; have HSELF := Lib.hid hself; have HOTH := Lib.hid hother; have HDA := Lib.hid hda
      clear hdj hsnoc hself hother hda hbj
      go_upto_region 17 with (go_at_call 94; (with_reducible refine (HSPD.out _ _).mono ?_); rintro e w' ⟨rfl, m3, rfl⟩)
      go_cut [20] (fun s20 wx => w5.drewN m3 = wx ∧ ∃ bb, s20 = .bool bb ∧ Hid (((d.y == c.y + c.h + 1) || ((c.y + c.h == en) && (d.y == 0))) = bb))
      case first =>
        cases e1 : (d.y == c.y + c.h + 1) <;> cases e2 : (c.y + c.h == en) <;> cases e3 : (d.y == 0)
        all_goals
          go_wp2_with fail
          go_meet
          case rel => exact ⟨rfl, _, rfl, Lib.hid (by simp [e1, e2, e3])⟩
      obtain ⟨rfl, bb, rfl, HNEAR⟩ := hcut
      go_upto_region 22 with (go_at_call 94; first | ((with_reducible refine (HSPC.out _ _).mono ?_); rintro e w' ⟨rfl, m4, rfl⟩) | ((with_reducible refine (HSPD.out _ _).mono ?_); rintro e w' ⟨rfl, m5, rfl⟩))
      have HTE : Hid (touchC 4 en c d = (bb && decide (c.x < d.x + d.w) && decide (d.x < c.x + c.w))) := Lib.hid (by rw [← HNEAR.out]; simp [touchC, nearC, sideK, loC, hiC])
      cases hp : (d.p == pane) with
      | true =>
        have hbeq := HSELF.out hp
        subst hbeq
        have HQ : Hid ((!(d.p == pane) && touchC 4 en c d) = false) := Lib.hid (by rw [hp]; rfl)
        have HP := Lib.hid hp; clear hp
        have t9 := neq95_same
        go_wp2_with fail
        go_roundg (n - (j + 1))
        case measure => omega
        case rel => exact ⟨j + 1, hlt, rfl, num_succ j, HSN.out HQ.out, _, rfl⟩
      | false =>
        have hne := HOTH.out hp
        have t9 : ∀ q, (binOp .neq 95 (.pointer (some ⟨b, 0, none⟩)) (.pointer (some ⟨bi, 0, none⟩))).run Try.prog (w5.drewN q) = .ok (.bool true) (w5.drewN q) := fun q => neq95_other (w5.drewN q) hne (show w5.heap[b]? = _ from HDA.out) (show w5.heap[bi]? = _ from HCA.out)
        have HP := Lib.hid hp; clear hp
        by_cases g1 : c.x < d.x + d.w <;> by_cases g2 : d.x < c.x + c.w <;> cases bb
        all_goals
          have HQ := Lib.hid HTE.out
          simp only [decide_eq_true_eq, g1, g2, decide_true, decide_false, Bool.and_true, Bool.and_false, Bool.true_and, Bool.false_and] at HQ
          have HQ2 := Lib.hid (show (!(d.p == pane) && touchC 4 en c d) = _ by rw [HP.out, HQ.out])
          clear HQ
          go_wp2_with fail
          first
          | (go_roundg (n - (j + 1))
             case measure => omega
             case rel => exact ⟨j + 1, hlt, rfl, num_succ j, HSN.out HQ2.out, _, rfl⟩)
          | (go_ret2
             have hE := HEN.out
             subst hE
             exact ⟨by rw [HPE.out, hit_at ht.out HD.out HQ2.out]; rfl, below_drewN HBB5.out _⟩)
    · go_wp2_with fail
      go_ret2
      have := ht.out
      rw [List.take_of_length_le (by have := HFIT.out; omega)] at this
      have hE := HEN.out
      subst hE
      exact ⟨by rw [HPE.out, hit_none this]; rfl, below_drewN HBB5.out _⟩

end Go.Proofs.Ytpehceccnjdfeaa
end
end

section

section
/- Beside: the program's, whole. -/
namespace Go.Proofs.Ytpehceccnjdfeaa
open Go.RowKit

theorem find_place (q : Cl → Bool) : ∀ (l : List Cl) (i : Nat) (c : Cl), placeF q l = ((i : Int), true) → l[i]? = some c → l.find? q = some c
  | [], i, c, h, _ => by simp [placeF] at h
  | a :: l, i, c, h, hc => by
    unfold placeF at h
    rw [List.findIdx?_cons] at h
    rw [List.find?_cons]
    cases hq : q a with
    | true =>
      rw [hq] at h
      simp only [if_true, Prod.mk.injEq, and_true] at h
      have : i = 0 := by omega
      subst this
      simpa using hc
    | false =>
      rw [hq] at h
      simp only [Bool.false_eq_true, if_false] at h
      cases hf : l.findIdx? q with
      | none => rw [hf] at h; simp at h
      | some j =>
        rw [hf] at h
        simp only [Option.map_some, Prod.mk.injEq, and_true] at h
        have : i = j + 1 := by omega
        subst this
        exact find_place q l j c (by unfold placeF; rw [hf]) (by simpa using hc)

theorem find_nowhere {q : Cl → Bool} {l : List Cl} (h : ∀ c ∈ l, q c = false) : l.find? q = none := by
  rw [List.find?_eq_none]; intro c hc; simp [h c hc]

theorem beside_none (v : Value) (l : List Cl) (pane s : Int) (w : World) (h : Reads w v l) (hr : readF l = none) : Calls Try.prog 48 #[v, .int .i64 pane, .int .i64 s] w fun e w' => SeenPost w (0, false) e w' := by
  have hb1 : Below w.heap.size w (w.alloc (.cells #[.int .i64 pane] 3)) := (Below.refl _ _).alloc (Nat.le_refl _) _
  have HREAD := read_any v l (w.alloc (.cells #[.int .i64 pane] 3)) (h.below hb1)
  rw [hr] at HREAD
  have HR := Lib.hid HREAD; have HB1 := Lib.hid hb1; clear HREAD h hr hb1
  go_enter Try.func48, Try.ntmps48
  go_wp2_with fail
  refine HR.out.mono ?_
  rintro e w1 ⟨hb, rfl⟩
  have HB := Lib.hid hb; clear hb
  go_wp2_with fail
  go_ret2
  exact ⟨rfl, HB1.out.trans (HB.out.mono HB1.out.size)⟩

theorem beside_side (v : Value) (l : List Cl) (pane s : Int) (w : World) (h : Reads w v l) (r : R) (hr : readF l = some r) (hs : s < 1 ∨ 4 < s) : Calls Try.prog 48 #[v, .int .i64 pane, .int .i64 s] w fun e w' => SeenPost w (0, false) e w' := by
  have hb1 : Below w.heap.size w (w.alloc (.cells #[.int .i64 pane] 3)) := (Below.refl _ _).alloc (Nat.le_refl _) _
  have HREAD := read_any v l (w.alloc (.cells #[.int .i64 pane] 3)) (h.below hb1)
  rw [hr] at HREAD
  have HR := Lib.hid HREAD; have HB1 := Lib.hid hb1; clear HREAD h hr hb1
  rcases hs with hs | hs
  all_goals
    go_enter Try.func48, Try.ntmps48
    go_wp2_with fail
    refine HR.out.mono ?_
    rintro e w1 ⟨hb, a, rfl, _⟩
    obtain ⟨ty, hv, _⟩ := val_parts a
    rw [hv]
    have HB := Lib.hid hb; clear hb hv
    have hs2 : ¬ (1 ≤ s ∧ s ≤ 4) := by omega
    go_wp2_with fail
    all_goals first
      | omega
      | (go_ret2; exact ⟨rfl, HB1.out.trans (HB.out.mono HB1.out.size)⟩)

set_option maxRecDepth 100000 in
set_option maxHeartbeats 1000000 in
theorem beside_miss (v : Value) (l : List Cl) (pane s : Int) (w : World) (h : Reads w v l) (r : R) (hr : readF l = some r) (hs1 : 1 ≤ s) (hs2 : s ≤ 4) (hpl : placeF (fun c => c.p == pane) (panesOf l) = (0, false)) :
    Calls Try.prog 48 #[v, .int .i64 pane, .int .i64 s] w fun e w' => SeenPost w (0, false) e w' := by
  have hb1 : Below w.heap.size w (w.alloc (.cells #[.int .i64 pane] 3)) := (Below.refl _ _).alloc (Nat.le_refl _) _
  have hx1 := heap_alloc_new w (.cells #[.int .i64 pane] 3)
  have HREAD := read_any v l (w.alloc (.cells #[.int .i64 pane] 3)) (h.below hb1)
  rw [hr] at HREAD
  have RI := read_is hr
  have hlen := RI.len
  have hcn := RI.cnt
  have n1 : ¬ s < 1 := by omega
  have n2 : ¬ s > 4 := by omega
  have HR := Lib.hid HREAD; have HRI := Lib.hid RI; have HB1 := Lib.hid hb1; have HX1 := Lib.hid hx1; have HPL := Lib.hid hpl
  clear HREAD h hr RI hb1 hx1 hpl
  go_enter Try.func48, Try.ntmps48
  go_wp2_with fail
  refine HR.out.mono ?_
  rintro e w1 ⟨hb, a, rfl, hrep, hpos, _⟩
  obtain ⟨ty, hv, _⟩ := val_parts a
  have hL := leaves_any r.depth a r w1 (Nat.le_refl _) hrep HRI.out.fed (by omega)
  have hat := (lvs_ids hrep hpos).2
  have hfit := (fits_any a r 0 0 0 hrep hpos).len
  have hll := lvs_len a r hrep
  have hlp := lvs_pos a r hrep HRI.out.fed
  rw [HRI.out.lay] at hat hfit
  rw [hv] at hL ⊢
  have hx2 := blk_below HX1.out hb
  have hbb := HB1.out.trans (hb.mono HB1.out.size)
  have HL := Lib.hid hL; have HAT := Lib.hid hat; have HFIT := Lib.hid hfit; have HB := Lib.hid hbb; have HX2 := Lib.hid hx2
  clear hL hat hfit hb hrep hpos hv HR HRI hx2 hbb
  generalize a.lvs = bs at *
  generalize hpe : panesOf l = ps at *
  have HPE := Lib.hid hpe; clear hpe
  generalize hn : bs.length = n at *
  have HN := Lib.hid hn; clear hn
  go_wp2_with fail
  refine HL.out.mono ?_
  rintro e w2 ⟨vl, rfl, o2, hb2⟩
  obtain ⟨g, cap, rfl, hg, _⟩ := o2.form (by rw [HN.out]; exact hlp)
  have hcap := own_cap o2
  rw [HN.out] at o2 hcap ⊢
  have hcell : ∀ (j b : Nat), bs[j]? = some b → w2.cell? ⟨g, j, none⟩ = some (.pointer (some ⟨b, 0, none⟩)) := by
    intro j b hj
    have hjl := (List.getElem?_eq_some_iff.1 hj).1
    rw [o2.cellAt j (by rw [HN.out] at hjl; omega), List.getElem?_map, hj]; rfl
  have hlaf : ∀ (j b : Nat), bs[j]? = some b → ∃ d, ps[j]? = some d ∧ LeafAt w2 b d := by
    intro j b hj
    obtain ⟨d, _, h1, h2⟩ := HAT.out j b hj
    exact ⟨d, h2, blk_below h1 hb2⟩
  have hI := index92 g cap w.heap.size bs ps pane n w2 HN (by omega) (Lib.hid HFIT.out.symm) hcap.1 hcap.2 (Lib.hid hcell) (Lib.hid hlaf) (blk_cell (blk_below HX2.out hb2) 0)
  rw [HPL.out] at hI
  have HI : Hid (Calls Try.prog 92 #[.slice (some ⟨g, 0, none⟩) n cap, .func (.func 93) #[] #[.pointer (some ⟨w.heap.size, 0, none⟩)]] w2 fun e w' => e = .returned (.int .i64 (-1)) ∧ ∃ m, w' = w2.drewN m) := Lib.hid hI
  have HBB := Lib.hid (HB.out.trans (hb2.mono HB.out.size))
  clear hcell hlaf hI hb2 o2 hll hlp hg HB HX2
  go_wp2_with fail
  refine HI.out.mono ?_
  rintro e w' ⟨rfl, m1, rfl⟩
  go_wp2_with fail
  go_ret2
  exact ⟨rfl, below_drewN HBB.out _⟩

theorem beside_any (v : Value) (l : List Cl) (pane s : Int) (w : World) (h : Reads w v l) : Calls Try.prog 48 #[v, .int .i64 pane, .int .i64 s] w fun e w' => SeenPost w (besideF l pane s) e w' := by
  unfold besideF
  cases hr : readF l with
  | none => exact beside_none v l pane s w h hr
  | some r =>
    simp only []
    by_cases hs : s < 1 ∨ 4 < s
    · rw [if_pos hs]; exact beside_side v l pane s w h r hr hs
    · rw [if_neg hs]
      rcases place_cases (fun c : Cl => c.p == pane) (panesOf l) with ⟨i, c, h1, h2, h3⟩ | ⟨h1, h2⟩
      · rw [find_place _ _ i c h1 h2]
        simp only []
        rcases (by omega : s = 1 ∨ s = 2 ∨ s = 3 ∨ s = 4) with rfl | rfl | rfl | rfl
        · exact beside_1 v l pane w h r hr i c h2 h1
        · exact beside_2 v l pane w h r hr i c h2 h1
        · exact beside_3 v l pane w h r hr i c h2 h1
        · exact beside_4 v l pane w h r hr i c h2 h1
      · rw [find_nowhere h2]
        exact beside_miss v l pane s w h r hr (by omega) (by omega) h1

end Go.Proofs.Ytpehceccnjdfeaa
end
end

section

section
/- Beside: the reference's. -/
namespace Go.Proofs.Ytpehceccnjdfeaa
open Go.RowKit

theorem rbeside_miss (v : Value) (l : List Cl) (pane s : Int) (w : World) (h : Reads w v l) (hf : findF l pane = (0, false)) : Calls Try.prog 49 #[v, .int .i64 pane, .int .i64 s] w fun e w' => SeenPost w (0, false) e w' := by
  have HF := rfind_any v l pane w h
  rw [hf] at HF
  have HF := Lib.hid HF; clear h hf
  go_enter Try.func49, Try.ntmps49
  go_wp2_with fail
  refine HF.out.mono ?_
  rintro e w1 ⟨rfl, hb1⟩
  have HB1 := Lib.hid hb1; clear hb1
  go_wp2_with fail
  go_ret2
  exact ⟨rfl, HB1.out⟩

set_option maxRecDepth 100000 in
set_option maxHeartbeats 2000000 in
theorem rbeside_hit (v : Value) (l : List Cl) (pane s : Int) (w : World) (h : Reads w v l) (r : R) (hr : readF l = some r) (m : Nat) (c : Cl) (hf : findF l pane = ((m : Int), true)) (hc : l[m]? = some c) (hck : c.k = 1) (hcp : c.p = pane) :
    Calls Try.prog 49 #[v, .int .i64 pane, .int .i64 s] w fun e w' => SeenPost w (hitF (fun d => d.k == 1 && (!(d.p == pane) && touchR s r.w r.h c d)) l) e w' := by
  have HF := rfind_any v l pane w h
  rw [hf] at HF
  obtain ⟨hl0, hok, hnd, _⟩ := (readF_iff l r).1 hr
  have hpi := (lay_fine r 0 0 0 hok).2
  rw [hl0] at hpi
  rw [← hpi] at hnd
  have RI := read_is hr
  have hlen := RI.len
  have hin : ∀ d ∈ l, InW r.w r.h d := by
    intro d hd
    rw [← hl0] at hd
    have h1 := lay_in r 0 0 0 hok d hd
    have h2 := (lay_spot r 0 0 0 hok d hd).2.1
    exact ⟨by omega, by omega, by omega, by omega, by omega, by omega⟩
  have hwh := (beside_facts hr).2.2
  have hhead : ∃ z, l[0]? = some z ∧ z.w = r.w ∧ z.h = r.h := by
    rw [← hl0]
    cases r
    exact ⟨_, rfl, rfl, rfl⟩
  obtain ⟨z, hz0, hzw, hzh⟩ := hhead
  have hself : ∀ (j : Nat) (d : Cl), l[j]? = some d → (d.k == 1) = true → ((j : Int) != (m : Int)) = (!(d.p == pane)) := by
    intro j d hd hk
    have hk' : d.k = 1 := by simpa using hk
    cases hp : (d.p == pane) with
    | true =>
      have hp' : d.p = pane := by simpa using hp
      have := pids_unique l hnd j m d c hd hc hk' hck (by rw [hp', hcp])
      subst this; simp
    | false =>
      have : j ≠ m := by
        rintro rfl
        rw [hd] at hc; cases hc
        simp [hcp] at hp
      have h2 : (j : Int) ≠ (m : Int) := by omega
      simpa using h2
  have hml := (List.getElem?_eq_some_iff.1 hc).1
  obtain ⟨ad, cap, rfl, _, _, h3⟩ := h
  generalize hn : l.length = n at *
  obtain ⟨b0, off, rfl, hcc⟩ := h3 (by omega)
  have hcells : ∀ W, Below w.heap.size w W → ∀ (j : Nat) (d : Cl), l[j]? = some d → ∀ i, i < 7 → W.cell? ⟨b0, off + j * 7 + i, none⟩ = d.vals[i]? := by
    intro W hW j d hd i hi
    exact (hW.cell (World.block_lt_of_cell? w ⟨b0, off + j * 7 + i, none⟩ (u := (d.vals[i]'(by simpa [Cl.vals] using hi))) (by rw [hcc j d hd i hi]; simp))).trans (hcc j d hd i hi)
  have HC := Lib.hid hcells; have HN := Lib.hid hn; have HIN := Lib.hid hin; have HSELF := Lib.hid hself; have HF := Lib.hid HF
  have HCC := Lib.hid hc; have HZ := Lib.hid hz0; have HCI := Lib.hid (hin c (List.mem_of_getElem? hc))
  have HZW := Lib.hid hzw; have HZH := Lib.hid hzh
  clear hr hf hc hck hcp hl0 hok hnd hpi RI hin hself hcells h3 hcc hn hz0 hzw hzh
  go_enter Try.func49, Try.ntmps49
  go_wp2_with fail
  refine HF.out.mono ?_
  rintro e w1 ⟨rfl, hb1⟩
  have HB1 := Lib.hid hb1; clear hb1
  go_wp2_with fail
  go_loopw [10] (fun i wr => ∃ j : Nat, j ≤ n ∧ i = .int .i64 j ∧ Hid (∀ d ∈ l.take j, (d.k == 1 && (!(d.p == pane) && touchR s r.w r.h c d)) = false) ∧ Hid (Below w.heap.size w wr)) (fun i _ => n - (intOf i).toNat)
  case atStart => exact ⟨0, Nat.zero_le _, rfl, by show ∀ d ∈ _, _; simp, HB1⟩
  case round =>
    obtain ⟨j, hj, rfl, ht, hb⟩ := hrel
    by_cases hlt : j < n
    · obtain ⟨d, hd⟩ : ∃ d, l[j]? = some d := ⟨l[j]'(by rw [HN.out]; exact hlt), by simp⟩
      have hcz := HC.out wr hb.out
      have e1 := hcz j d hd 1 (by omega)
      simp only [Cl.vals, List.getElem?_cons_zero, List.getElem?_cons_succ, Nat.add_zero] at e1
      have hsnoc : (d.k == 1 && (!(d.p == pane) && touchR s r.w r.h c d)) = false → ∀ x ∈ l.take (j + 1), (x.k == 1 && (!(x.p == pane) && touchR s r.w r.h c x)) = false := by
        intro hq
        rw [take_snoc' hd]
        intro x hx
        rcases List.mem_append.1 hx with hx | hx
        · exact ht.out x hx
        · rw [List.mem_singleton.1 hx]; exact hq
      have HS := Lib.hid hsnoc; have HD := Lib.hid hd
      have hsame : (d.k == 1) = true → ((j : Int) != (m : Int)) = (!(d.p == pane)) := HSELF.out j d hd
      have HSAME := Lib.hid hsame
      clear hsnoc hd hsame
      cases hk : (d.k == 1) with
      | false =>
        have HQ : Hid ((d.k == 1 && (!(d.p == pane) && touchR s r.w r.h c d)) = false) := Lib.hid (by rw [hk]; rfl)
        clear hcz
        go_wp2_with fail
        go_quiet (fail)
        go_wp2_with fail
        exact ⟨⟨j + 1, hlt, num_succ j, HS.out HQ.out, Lib.hid (below_drewN hb.out _)⟩, meas_lt hlt⟩
      | true =>
        have hjm := HSAME.out hk
        cases hp : (d.p == pane) with
        | true =>
          have HQ : Hid ((d.k == 1 && (!(d.p == pane) && touchR s r.w r.h c d)) = false) := Lib.hid (by rw [hk, hp]; rfl)
          rw [hp] at hjm
          have HP := Lib.hid hp
          have hjm : ((j : Int) != (m : Int)) = false := hjm
          clear hcz hp
          go_wp2_with fail
          go_quiet (fail)
          go_wp2_with fail
          exact ⟨⟨j + 1, hlt, num_succ j, HS.out HQ.out, Lib.hid (below_drewN hb.out _)⟩, meas_lt hlt⟩
        | false =>
          rw [hp] at hjm
          have hjm : ((j : Int) != (m : Int)) = true := hjm
          have HP := Lib.hid hp; have HK := Lib.hid hk
          have g1 := fun i hi => hcz j d HD.out i hi
          have g2 := fun i hi => hcz m c HCC.out i hi
          have g3 := fun i hi => hcz 0 z HZ.out i hi
          have a0 := cell_regrown (g1 0 (by omega)); have a1 := cell_regrown (g1 1 (by omega)); have a2 := cell_regrown (g1 2 (by omega)); have a3 := cell_regrown (g1 3 (by omega)); have a4 := cell_regrown (g1 4 (by omega)); have a5 := cell_regrown (g1 5 (by omega)); have a6 := cell_regrown (g1 6 (by omega))
          have q0 := cell_regrown (g2 0 (by omega)); have q1 := cell_regrown (g2 1 (by omega)); have q2 := cell_regrown (g2 2 (by omega)); have q3 := cell_regrown (g2 3 (by omega)); have q4 := cell_regrown (g2 4 (by omega)); have q5 := cell_regrown (g2 5 (by omega)); have q6 := cell_regrown (g2 6 (by omega))
          have z4 := cell_regrown (g3 4 (by omega)); have z5 := cell_regrown (g3 5 (by omega))
          simp only [Nat.add_zero, Nat.zero_mul] at a0 a1 a2 a3 a4 a5 a6 q0 q1 q2 q3 q4 q5 q6 z4 z5
          rw [HZW.out] at z4
          rw [HZH.out] at z5
          have hC : ∀ dd os, Calls Try.prog 95 #[.agg #[.int .i64 c.d, .int .i64 c.k, .int .i64 c.x, .int .i64 c.y, .int .i64 c.w, .int .i64 c.h, .int .i64 c.p], .agg #[.int .i64 d.d, .int .i64 d.k, .int .i64 d.x, .int .i64 d.y, .int .i64 d.w, .int .i64 d.h, .int .i64 d.p], .int .i64 s, .int .i64 r.w, .int .i64 r.h] (Go.Sort.grow (redrawn wr dd) os)
              fun e w'' => e = .returned (.bool (touchR s r.w r.h c d)) ∧ ∃ p : Regrown, w'' = Go.Sort.grow (redrawn wr p.d) p.os :=
            fun dd os => Calls.regrown_of (touch_any c d s r.w r.h _ HCI.out (HIN.out d (List.mem_of_getElem? HD.out)) (by omega) (by omega))
          cases hT : touchR s r.w r.h c d
          all_goals
            rw [hT] at hC
            have HC2 := Lib.hid hC
            have HQ := Lib.hid (show (d.k == 1 && (!(d.p == pane) && touchR s r.w r.h c d)) = _ by rw [HK.out, HP.out, hT])
            clear hT hC g1 g2 g3 hcz
            have hn0 : 0 < n := by omega
            have hn1 : ¬ n = 0 := by omega
            have hn2 : (0 : Int) < (n : Int) := by omega
            go_wp2_with fail
            refine wp_region_quiet_below (by kernel_rfl) (by kernel_rfl) ?_
            repeat (quiet_step (first | with_reducible exact HC2.out _ _))
            refine wpQuiet_nil ?_
            intro _ hw'
            obtain ⟨⟨dq, osq⟩, hw''⟩ := hw'
            subst hw''
            have k6 := a6 dq osq
            have HB2 := Lib.hid (hb.out.trans ((below_regrown wr dq osq).mono hb.out.size))
            go_wp2_with fail
            first
            | exact ⟨⟨j + 1, hlt, num_succ j, HS.out HQ.out, HB2⟩, meas_lt hlt⟩
            | (go_ret2
               exact ⟨by rw [hit_at ht.out HD.out HQ.out]; rfl, HB2.out⟩)
    · go_wp2_with fail
      go_ret2
      have := ht.out
      rw [List.take_of_length_le (by have := HN.out; omega)] at this
      exact ⟨by rw [hit_none this]; rfl, hb.out⟩

theorem hit_congr {q q' : Cl → Bool} {l : List Cl} (h : ∀ c ∈ l, q c = q' c) : hitF q l = hitF q' l := by
  unfold hitF
  have : l.find? q = l.find? q' := by
    induction l with
    | nil => rfl
    | cons a l ih => rw [List.find?_cons, List.find?_cons, h a (by simp), ih fun c hc => h c (by simp [hc])]
  rw [this]

theorem rbeside_any (v : Value) (l : List Cl) (pane s : Int) (w : World) (h : Reads w v l) : Calls Try.prog 49 #[v, .int .i64 pane, .int .i64 s] w fun e w' => SeenPost w (besideF l pane s) e w' := by
  cases hr : readF l with
  | none =>
    have e1 : besideF l pane s = (0, false) := by unfold besideF; rw [hr]
    rw [e1]
    exact rbeside_miss v l pane s w h (by unfold findF; rw [hr])
  | some r =>
    obtain ⟨hl0, hok, hnd, _⟩ := (readF_iff l r).1 hr
    have hpi := (lay_fine r 0 0 0 hok).2
    rw [hl0] at hpi
    have e : pids l = (panesOf l).map Cl.p := by
      unfold pids panesOf
      congr 1
    obtain ⟨hin, huq, hwh⟩ := beside_facts hr
    rcases find_mem hr pane with ⟨m, c, h1, h2, h3, h4, h5⟩ | ⟨h1, h2⟩
    · refine (rbeside_hit v l pane s w h r hr m c h1 h2 h3 h4).mono ?_
      rintro e w' he
      have : besideF l pane s = hitF (fun d => d.k == 1 && (!(d.p == pane) && touchR s r.w r.h c d)) l := by
        unfold besideF
        rw [hr]
        simp only []
        split
        · rename_i hs
          refine (hit_none fun d _ => ?_).symm
          rw [show touchR s r.w r.h c d = false by unfold touchR; rw [if_neg (by omega), if_neg (by omega), if_neg (by omega), if_neg (by omega)]]
          simp
        · rename_i hs
          have hcm : c ∈ panesOf l := List.mem_filter.2 ⟨List.mem_of_getElem? h2, by simp [h3]⟩
          cases hf : (panesOf l).find? (fun c => c.p == pane) with
          | none => exact absurd h4 (by simpa using List.find?_eq_none.1 hf c hcm)
          | some c' =>
            have hc' := List.mem_of_find?_eq_some hf
            have hp' : c'.p = pane := by simpa using List.find?_some hf
            obtain ⟨i, hi, hci⟩ := List.getElem_of_mem hc'
            obtain ⟨j, hj, hcj⟩ := List.getElem_of_mem hcm
            have : i = j := huq i j c' c (by rw [← hci]; simp [hi]) (by rw [← hcj]; simp [hj]) (by rw [hp', h4])
            subst this
            have : c' = c := hci.symm.trans hcj
            subst this
            simp only []
            rw [← hit_panes]
            refine hit_congr fun d hd => ?_
            rw [touch_eq (hin c' hc') (hin d hd) (by omega)]
            rfl
      rw [this]
      exact he
    · have : besideF l pane s = (0, false) := by
        unfold besideF
        rw [hr]
        simp only []
        split
        · rfl
        · rw [find_nowhere fun c hc => ?_]
          have : c.p ∈ r.ids := by
            rw [← hpi, e]
            exact List.mem_map_of_mem hc
          simp only [beq_eq_false_iff_ne, ne_eq]
          rintro rfl
          exact h2 this
      rw [this]
      exact rbeside_miss v l pane s w h h1

end Go.Proofs.Ytpehceccnjdfeaa
end
end
