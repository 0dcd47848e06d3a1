/- The reference's twice and sizes. -/
import Derived.Test.YtpehceccnjdfeaaF5
namespace Go.Proofs.Ytpehceccnjdfeaa
open Go.RowKit

set_option maxRecDepth 100000 in
theorem twice_any (v : Value) (l : List Int) (w : World) (hr : Reads1 w v (ints l)) (hl : l.length ≤ 100000) : Calls Try.prog 126 #[v] w fun e w' => e = .returned (.bool (!decide l.Nodup)) ∧ ∃ q, w' = w.drewN q := by
  obtain ⟨a, cap, rfl, hc⟩ := hr
  have hlen : (ints l).length = l.length := by simp [ints]
  rw [hlen] at *
  generalize hn : l.length = n at *
  have HN := Lib.hid hn; have HC := Lib.hid hc
  clear hn hc hlen
  go_enter Try.func126, Try.ntmps126
  go_wp2_with fail
  go_loopw [3] (fun i wr => ∃ j : Nat, j ≤ n ∧ i = .int .i64 j ∧ Hid ((l.take j).Nodup) ∧ Hid (∃ q, wr = w.drewN q)) (fun i _ => n - (intOf i).toNat)
  case atStart => exact ⟨0, Nat.zero_le _, rfl, by show List.Nodup _; simp, 0, rfl⟩
  case round =>
    obtain ⟨i, hi, rfl, hx, hq⟩ := hrel
    obtain ⟨q, rfl⟩ := hq.out
    by_cases hlt : i < n
    · obtain ⟨p, hp⟩ : ∃ p, l[i]? = some p := ⟨l[i]'(by rw [HN.out]; exact hlt), by simp⟩
      obtain ⟨b, off, rfl, hcc⟩ := HC.out (by simp only [ints, List.length_map]; have := HN.out; omega)
      have c1 : w.cell? ⟨b, off + i, none⟩ = some (.int .i64 p) := hcc i (.int .i64 p) (by simp [ints, hp])
      have HP := Lib.hid hp; have HCC := Lib.hid hcc; clear hp hcc HC
      go_wp2_with fail
      go_loopw [4] (fun i' wr => ∃ j : Nat, j ≤ i ∧ i' = .int .i64 j ∧ Hid (p ∉ l.take j) ∧ Hid (∃ q, wr = w.drewN q)) (fun i' _ => i - (intOf i').toNat)
      case atStart => exact ⟨0, Nat.zero_le _, rfl, by show _ ∉ _; simp, q, rfl⟩
      case round =>
        obtain ⟨j, hj, rfl, hx2, hq2⟩ := hrel
        obtain ⟨q2, rfl⟩ := hq2.out
        by_cases hlt2 : j < i
        · obtain ⟨p2, hp2⟩ : ∃ p2, l[j]? = some p2 := ⟨l[j]'(by rw [HN.out]; omega), by simp⟩
          have c2 : w.cell? ⟨b, off + j, none⟩ = some (.int .i64 p2) := HCC.out j (.int .i64 p2) (by simp [ints, hp2])
          have HP2 := Lib.hid hp2; clear hp2
          go_wp2_with fail
          go_quiet (fail)
          go_wp2_with fail
          · have he : p2 = p := by simpa using ‹(p2 == p) = true›
            go_ret
            have hnn : ¬ l.Nodup := by
              intro hnd
              have e1 := List.getElem?_eq_some_iff.1 HP.out
              have e2 := List.getElem?_eq_some_iff.1 HP2.out
              have := (List.getElem_inj hnd (h₀ := e1.1) (h₁ := e2.1)).1 (by rw [e1.2, e2.2, he])
              omega
            exact ⟨by simp [hnn], _, World.drewN_drewN _ _ _⟩
          · have he : ¬ p2 = p := by simpa using ‹(p2 == p) = false›
            refine ⟨⟨j + 1, hlt2, num_succ j, ?_, _, rfl⟩, meas_lt hlt2⟩
            show _ ∉ _
            rw [take_snoc' HP2.out]
            simp only [List.mem_append, List.mem_singleton, not_or]
            exact ⟨hx2.out, fun e => he e.symm⟩
        · obtain rfl : j = i := by omega
          go_wp2_with fail
          refine ⟨⟨j + 1, hlt, num_succ j, ?_, _, rfl⟩, meas_lt hlt⟩
          show List.Nodup _
          rw [take_snoc' HP.out, List.nodup_append]
          refine ⟨hx.out, by simp, ?_⟩
          rintro a ha b hb rfl
          simp only [List.mem_singleton] at hb
          exact hx2.out (hb ▸ ha)
    · go_wp2_with fail
      go_ret
      have := hx.out
      rw [List.take_of_length_le (by have := HN.out; omega)] at this
      exact ⟨by simp [this], q, rfl⟩

/-! ### sizes -/
mutual
/-- Do the children of a node, and all below, share out what it has? -/
def R.sz : R → Prop
  | .mk k w h i kids => (1 ≤ w ∧ 1 ≤ h) ∧
    ((k = 1 ∧ kids = [] ∧ 1 ≤ i ∧ i ≤ 4611686018427387904) ∨ ((k = 2 ∨ k = 3) ∧ i = 0 ∧ 2 ≤ kids.length ∧ szL k w h kids ∧ spanL k kids = ext k w h + 1))
def szL (k w h : Int) : List R → Prop
  | [] => True
  | r :: rs => (r.kind ≠ k ∧ r.w ≤ w ∧ r.h ≤ h ∧ r.sz ∧ r.ext (5 - k) = ext (5 - k) w h) ∧ szL k w h rs
end
theorem szL_app {k w h : Int} (l m : List R) : szL k w h (l ++ m) ↔ szL k w h l ∧ szL k w h m := by
  induction l with
  | nil => simp [szL]
  | cons a l ih => simp [szL, ih, and_assoc]
theorem szL_mem {k w h : Int} {r : R} {l : List R} (hl : szL k w h l) (m : r ∈ l) : r.kind ≠ k ∧ r.w ≤ w ∧ r.h ≤ h ∧ r.sz ∧ r.ext (5 - k) = ext (5 - k) w h := by
  induction l with
  | nil => cases m
  | cons a l ih =>
    obtain ⟨h1, h2⟩ := hl
    rcases List.mem_cons.1 m with rfl | m
    · exact h1
    · exact ih h2 m

theorem span_ge {k : Int} : ∀ (l : List R), (∀ r ∈ l, 1 ≤ r.ext k) → 2 * (l.length : Int) ≤ spanL k l
  | [], _ => by simp [spanL]
  | r :: rs, h => by
    have h1 := h r (by simp)
    have h2 := span_ge rs (fun q hq => h q (by simp [hq]))
    simp only [spanL, List.length_cons]; omega
theorem span_le {k : Int} : ∀ (l : List R), (∀ r ∈ l, r.ext k ≤ 1000) → spanL k l ≤ 1001 * (l.length : Int)
  | [], _ => by simp [spanL]
  | r :: rs, h => by
    have h1 := h r (by simp)
    have h2 := span_le rs (fun q hq => h q (by simp [hq]))
    simp only [spanL, List.length_cons]; omega
theorem span_mem {k : Int} {r : R} : ∀ (l : List R), (∀ r ∈ l, 1 ≤ r.ext k) → r ∈ l → r.ext k + 1 + 2 * ((l.length : Int) - 1) ≤ spanL k l
  | [], _, m => by cases m
  | a :: l, h, m => by
    have h2 := span_ge l (fun q hq => h q (by simp [hq]))
    have h1 := h a (by simp)
    simp only [spanL, List.length_cons]
    rcases List.mem_cons.1 m with rfl | m
    · omega
    · have := span_mem l (fun q hq => h q (by simp [hq])) m
      omega

mutual
/-- Sizes within bounds. -/
theorem sz_ok : ∀ (r : R), r.sz ∧ r.w ≤ 1000 ∧ r.h ≤ 1000 ↔ r.ok
  | .mk k w h i kids => by
    simp only [R.sz, R.ok, R.w, R.h]
    constructor
    · rintro ⟨⟨⟨h1, h2⟩, h3⟩, h4, h5⟩
      refine ⟨⟨h1, h4, h2, h5⟩, ?_⟩
      rcases h3 with h3 | ⟨a1, a2, a3, a4, a5⟩
      · exact .inl h3
      · exact .inr ⟨a1, a2, a3, (szL_ok kids k w h) ⟨a4, h4, h5⟩, a5⟩
    · rintro ⟨⟨h1, h4, h2, h5⟩, h3⟩
      refine ⟨⟨⟨h1, h2⟩, ?_⟩, h4, h5⟩
      rcases h3 with h3 | ⟨a1, a2, a3, a4, a5⟩
      · exact .inl h3
      · refine .inr ⟨a1, a2, a3, (szL_ok2 kids k w h a1 a4 ?_ h4 h5), a5⟩
        intro r hr
        have hx : ∀ r ∈ kids, 1 ≤ r.ext k := by
          intro r hr
          have := (okL_mem a4 hr).2.2
          cases r
          simp only [R.ok] at this
          simp only [R.ext, ext, R.w, R.h]
          split <;> omega
        have h7 := span_mem kids hx hr
        omega
theorem szL_ok : ∀ (l : List R) (k w h : Int), szL k w h l ∧ w ≤ 1000 ∧ h ≤ 1000 → okL k w h l
  | [], _, _, _, _ => trivial
  | r :: rs, k, w, h, ⟨⟨⟨a1, a2, a3, a4, a5⟩, hl⟩, h1, h2⟩ => ⟨⟨a1, a5, (sz_ok r).1 ⟨a4, by omega, by omega⟩⟩, szL_ok rs k w h ⟨hl, h1, h2⟩⟩
theorem szL_ok2 : ∀ (l : List R) (k w h : Int), k = 2 ∨ k = 3 → okL k w h l → (∀ r ∈ l, r.ext k ≤ ext k w h) → w ≤ 1000 → h ≤ 1000 → szL k w h l
  | [], _, _, _, _, _, _, _, _ => trivial
  | r :: rs, k, w, h, hk, ⟨⟨a1, a2, a3⟩, hl⟩, hx, h1, h2 => by
    have hs := (sz_ok r).2 a3
    have hr := hx r (by simp)
    refine ⟨⟨a1, ?_, ?_, hs.1, a2⟩, szL_ok2 rs k w h hk hl (fun q hq => hx q (by simp [hq])) h1 h2⟩
    · rcases hk with rfl | rfl
      · simpa [R.ext, ext] using hr
      · simp [R.ext, ext] at a2; omega
    · rcases hk with rfl | rfl
      · simp [R.ext, ext] at a2; omega
      · simpa [R.ext, ext] using hr
end

end Go.Proofs.Ytpehceccnjdfeaa
