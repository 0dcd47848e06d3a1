import Derived.Test.YtpehceccnjdfeaaK1

section
/- At: the program's and the reference's. -/
namespace Go.Proofs.Ytpehceccnjdfeaa
open Go.RowKit

/-- Does a cell hold that place? -/
def inB (x y : Int) (c : Cl) : Bool := decide (c.x ≤ x) && decide (x < c.x + c.w) && decide (c.y ≤ y) && decide (y < c.y + c.h)

theorem inB_cases (x y : Int) (c : Cl) : (c.x ≤ x ∧ x < c.x + c.w ∧ c.y ≤ y ∧ y < c.y + c.h ∧ inB x y c = true) ∨ (¬ c.x ≤ x ∧ inB x y c = false) ∨ (c.x ≤ x ∧ ¬ x < c.x + c.w ∧ inB x y c = false) ∨
    (c.x ≤ x ∧ x < c.x + c.w ∧ ¬ c.y ≤ y ∧ inB x y c = false) ∨ (c.x ≤ x ∧ x < c.x + c.w ∧ c.y ≤ y ∧ ¬ y < c.y + c.h ∧ inB x y c = false) := by
  unfold inB
  by_cases h1 : c.x ≤ x <;> by_cases h2 : x < c.x + c.w <;> by_cases h3 : c.y ≤ y <;> by_cases h4 : y < c.y + c.h <;> simp [h1, h2, h3, h4]

/-- The first pane of the list that is asked for. -/
def hitF (q : Cl → Bool) (l : List Cl) : Int × Bool := match l.find? q with | some c => (c.p, true) | none => (0, false)

theorem hit_at {q : Cl → Bool} {l : List Cl} {j : Nat} {c : Cl} (hn : ∀ c ∈ l.take j, q c = false) (hj : l[j]? = some c) (hq : q c = true) : hitF q l = (c.p, true) := by
  have : l.find? q = some c := by
    rw [List.find?_eq_some_iff_append]
    obtain ⟨h, rfl⟩ := List.getElem?_eq_some_iff.1 hj
    refine ⟨hq, l.take j, l.drop (j + 1), ?_, fun a ha => by simp [hn a ha]⟩
    rw [List.getElem_cons_drop, List.take_append_drop]
  unfold hitF
  rw [this]

theorem hit_none {q : Cl → Bool} {l : List Cl} (hn : ∀ c ∈ l, q c = false) : hitF q l = (0, false) := by
  have : l.find? q = none := by
    rw [List.find?_eq_none]; intro c hc; simp [hn c hc]
  unfold hitF
  rw [this]

def atF (l : List Cl) (x y : Int) : Int × Bool := match readF l with | none => (0, false) | some _ => hitF (inB x y) (panesOf l)

theorem hit_panes (q : Cl → Bool) (l : List Cl) : hitF q (panesOf l) = hitF (fun c => c.k == 1 && q c) l := by
  unfold hitF panesOf
  rw [List.find?_filter]
  have : (fun a : Cl => decide ((a.k == 1) = true ∧ q a = true)) = fun c => c.k == 1 && q c := by
    funext c; cases (c.k == 1) <;> cases q c <;> rfl
  rw [this]

set_option maxRecDepth 100000 in
set_option maxHeartbeats 1000000 in
theorem at_any (v : Value) (l : List Cl) (x y : Int) (w : World) (h : Reads w v l) : Calls Try.prog 33 #[v, .int .i64 x, .int .i64 y] w fun e w' => SeenPost w (atF l x y) e w' := by
  have HREAD := read_any v l w h
  unfold atF
  cases hr : readF l with
  | none =>
    rw [hr] at HREAD
    have HR := Lib.hid HREAD; clear HREAD h hr
    go_enter Try.func33, Try.ntmps33
    go_wp2_with fail
    refine HR.out.mono ?_
    rintro e w1 ⟨hb, rfl⟩
    have HB := Lib.hid hb; clear hb
    go_wp2_with fail
    go_ret2
    exact ⟨rfl, HB.out⟩
  | some r =>
    simp only []
    rw [hr] at HREAD
    have RI := read_is hr
    have hok := ((readF_iff l r).1 hr).2.1
    have hlen := RI.len
    have hcn := RI.cnt
    have hsp := fun c (hc : c ∈ r.lay 0 0 0) => lay_spot r 0 0 0 hok c hc
    rw [RI.lay] at hsp
    have HR := Lib.hid HREAD; have HSP := Lib.hid hsp; have HRI := Lib.hid RI
    clear HREAD h hr RI hok hsp
    go_enter Try.func33, Try.ntmps33
    go_wp2_with fail
    refine HR.out.mono ?_
    rintro e w1 ⟨hb, a, rfl, hrep, hpos, _⟩
    obtain ⟨ty, hv, _⟩ := val_parts a
    have hL := leaves_any r.depth a r w1 (Nat.le_refl _) hrep HRI.out.fed (by omega)
    obtain ⟨_, hat⟩ := lvs_ids hrep hpos
    have hfit := (fits_any a r 0 0 0 hrep hpos).len
    have hll := lvs_len a r hrep
    have hlp := lvs_pos a r hrep HRI.out.fed
    rw [HRI.out.lay] at hat hfit
    rw [hv] at hL ⊢
    have hps : ∀ c ∈ panesOf l, c ∈ l := fun c hc => (List.mem_filter.1 hc).1
    have HL := Lib.hid hL; have HAT := Lib.hid hat; have HFIT := Lib.hid hfit; have HB := Lib.hid hb; have HPS := Lib.hid hps
    clear hL hat hfit hb hrep hpos hv HR HRI hps
    generalize a.lvs = bs at *
    generalize hpe : panesOf l = ps at *
    have HPE := Lib.hid hpe; clear hpe
    generalize hn : bs.length = n at *
    have HN := Lib.hid hn; clear hn
    go_wp2_with fail
    refine HL.out.mono ?_
    rintro e w2 ⟨vl, rfl, o2, hb2⟩
    obtain ⟨g, cap, rfl, hg, _⟩ := o2.form (by rw [HN.out]; exact hlp)
    have HO := Lib.hid o2; have HB2 := Lib.hid hb2; have HBB := Lib.hid (HB.out.trans (hb2.mono HB.out.size))
    clear o2 hb2
    rw [HN.out] at HO ⊢
    go_wp2_with fail
    go_loopw [10, 18] (fun _ i wr => ∃ j : Nat, j ≤ n ∧ i = .int .i64 j ∧ Hid (∀ c ∈ ps.take j, inB x y c = false) ∧ Hid (∃ q, wr = w2.drewN q)) (fun _ i _ => n - (intOf i).toNat)
    case atStart => exact ⟨0, Nat.zero_le _, rfl, by show ∀ c ∈ _, _; simp, 0, rfl⟩
    case round =>
      obtain ⟨j, hj, rfl, ht, hq⟩ := hrel
      obtain ⟨q, rfl⟩ := hq.out
      by_cases hlt : j < n
      · obtain ⟨b, hbj⟩ : ∃ b, bs[j]? = some b := ⟨bs[j]'(by rw [HN.out]; exact hlt), by simp⟩
        obtain ⟨c, _, hla, hcj⟩ := HAT.out j b hbj
        have c1 : w2.cell? ⟨g, j, none⟩ = some (.pointer (some ⟨b, 0, none⟩)) := by
          have := HO.out
          rw [this.cellAt j (by omega), List.getElem?_map, hbj]; rfl
        have hx := blk_below hla HB2.out
        have k0 : w2.cell? ⟨b, 0, none⟩ = some (.int .i64 c.x) := blk_cell hx 0
        have k1 : w2.cell? ⟨b, 1, none⟩ = some (.int .i64 c.y) := blk_cell hx 1
        have k2 : w2.cell? ⟨b, 2, none⟩ = some (.int .i64 c.w) := blk_cell hx 2
        have k3 : w2.cell? ⟨b, 3, none⟩ = some (.int .i64 c.h) := blk_cell hx 3
        have k4 : w2.cell? ⟨b, 4, none⟩ = some (.int .i64 c.p) := blk_cell hx 4
        have hcb := (HSP.out c (HPS.out c (List.mem_of_getElem? hcj))).2
        have wx : IntKind.i64.wrap (c.x + c.w) = c.x + c.w := by rw [IntKind.wrap_i64]; omega
        have wy : IntKind.i64.wrap (c.y + c.h) = c.y + c.h := by rw [IntKind.wrap_i64]; omega
        have HJ := Lib.hid hcj
        clear hla hcj hbj hx hcb
        have hsnoc : inB x y c = false → ∀ d ∈ ps.take (j + 1), inB x y d = false := by
          intro hq
          rw [take_snoc' HJ.out]
          intro d hd
          rcases List.mem_append.1 hd with hd | hd
          · exact ht.out d hd
          · rw [List.mem_singleton.1 hd]; exact hq
        have HS := Lib.hid hsnoc; clear hsnoc
        rcases inB_cases x y c with ⟨e1, e2, e3, e4, e5⟩ | ⟨e1, e5⟩ | ⟨e1, e2, e5⟩ | ⟨e1, e2, e3, e5⟩ | ⟨e1, e2, e3, e4, e5⟩
        all_goals
          try have d1 := decide_eq_true e1
          try have d1 := decide_eq_false e1
          try have d2 := decide_eq_true e2
          try have d2 := decide_eq_false e2
          try have d3 := decide_eq_true e3
          try have d3 := decide_eq_false e3
          try have d4 := decide_eq_true e4
          try have d4 := decide_eq_false e4
          have HQ := Lib.hid e5; clear e5
          go_wp2_with fail
          go_quiet (fail)
          go_wp2_with fail
          first
          | exact ⟨⟨j + 1, hlt, num_succ j, HS.out HQ.out, ⟨_, rfl⟩⟩, meas_lt hlt⟩
          | (go_ret2; exact ⟨by rw [HPE.out, hit_at ht.out HJ.out HQ.out]; rfl, below_drewN HBB.out _⟩)
      · go_wp2_with fail
        go_ret2
        have := ht.out
        rw [List.take_of_length_le (by have := HFIT.out; omega)] at this
        exact ⟨by rw [HPE.out, hit_none this]; rfl, below_drewN HBB.out _⟩

end Go.Proofs.Ytpehceccnjdfeaa
end

section
/- The reference's At. -/
namespace Go.Proofs.Ytpehceccnjdfeaa
open Go.RowKit

theorem rat_none (v : Value) (l : List Cl) (x y : Int) (w : World) (h : Reads w v l) (hr : readF l = none) : Calls Try.prog 34 #[v, .int .i64 x, .int .i64 y] w fun e w' => SeenPost w (0, false) e w' := by
  have HT := tree_any v l w h
  rw [hr] at HT
  have HT := Lib.hid HT; clear h hr
  go_enter Try.func34, Try.ntmps34
  go_wp2_with fail
  refine HT.out.mono ?_
  rintro e w1 ⟨hb1, rfl⟩
  have HB1 := Lib.hid hb1; clear hb1
  unfold zeroNode
  go_wp2_with fail
  go_loop [10] (fun i => i = .int .i64 0) (fun _ => 0)
  case atStart => rfl
  case round =>
    subst hrel
    go_wp2_with fail
    go_ret2
    exact ⟨rfl, HB1.out.alloc HB1.out.size _⟩

set_option maxRecDepth 100000 in
set_option maxHeartbeats 1000000 in
theorem rat_some (v : Value) (l : List Cl) (x y : Int) (w : World) (h : Reads w v l) (r : R) (hr : readF l = some r) : Calls Try.prog 34 #[v, .int .i64 x, .int .i64 y] w fun e w' => SeenPost w (hitF (fun c => c.k == 1 && inB x y c) l) e w' := by
  have HT := tree_any v l w h
  rw [hr] at HT
  have RI := read_is hr
  have hlen := RI.len
  have hcn := RI.cnt
  have hok := ((readF_iff l r).1 hr).2.1
  have hsp := fun c (hc : c ∈ r.lay 0 0 0) => (lay_spot r 0 0 0 hok c hc).2
  rw [RI.lay] at hsp
  obtain ⟨a, cap, rfl, _, _, h3⟩ := h
  generalize hn : l.length = n at *
  have HT := Lib.hid HT; have HN := Lib.hid hn; have H3 := Lib.hid h3; have HSP := Lib.hid hsp
  clear hn h3 RI hr hok hsp
  go_enter Try.func34, Try.ntmps34
  go_wp2_with fail
  refine HT.out.mono ?_
  rintro e w1 ⟨hb1, sa, sc, rfl, _⟩
  have hb2 := hb1.alloc hb1.size (.cells #[.int .i64 r.kind, .int .i64 r.w, .int .i64 r.h, .int .i64 r.id, .slice sa r.kids.length sc] 88)
  have HB2 := Lib.hid hb2; clear hb1 hb2 HT
  go_wp2_with fail
  go_loopw [10, 11] (fun i _ wr => ∃ j : Nat, j ≤ n ∧ i = .int .i64 j ∧ Hid (∀ c ∈ l.take j, (c.k == 1 && inB x y c) = false) ∧ Hid (Below w.heap.size w wr)) (fun i _ _ => n - (intOf i).toNat)
  case atStart => exact ⟨0, Nat.zero_le _, rfl, by show ∀ c ∈ _, _; simp, HB2.out⟩
  case round =>
    obtain ⟨j, hj, rfl, ht, hb⟩ := hrel
    by_cases hlt : j < n
    · obtain ⟨c, hc⟩ : ∃ c, l[j]? = some c := ⟨l[j]'(by rw [HN.out]; exact hlt), by simp⟩
      obtain ⟨b, off, rfl, hcc⟩ := H3.out (by omega)
      have hbb : b < w.heap.size := World.block_lt_of_cell? w ⟨b, off + j * 7 + 0, none⟩ (u := .int .i64 c.d) (by rw [hcc j c hc 0 (by omega)]; rfl)
      have g := fun i hi => (hb.out.cell (p := ⟨b, off + j * 7 + i, none⟩) hbb).trans (hcc j c hc i hi)
      have a0 := g 0 (by omega); have a1 := g 1 (by omega); have a2 := g 2 (by omega); have a3 := g 3 (by omega); have a4 := g 4 (by omega); have a5 := g 5 (by omega); have a6 := g 6 (by omega)
      clear g
      simp only [Cl.vals, List.getElem?_cons_zero, List.getElem?_cons_succ, Nat.add_zero] at a0 a1 a2 a3 a4 a5 a6
      have hcb := HSP.out c (List.mem_of_getElem? hc)
      have wx : IntKind.i64.wrap (c.x + c.w) = c.x + c.w := by rw [IntKind.wrap_i64]; omega
      have wy : IntKind.i64.wrap (c.y + c.h) = c.y + c.h := by rw [IntKind.wrap_i64]; omega
      have hba := hb.out.alloc hb.out.size (.cells #[.int .i64 c.d, .int .i64 c.k, .int .i64 c.x, .int .i64 c.y, .int .i64 c.w, .int .i64 c.h, .int .i64 c.p] 53)
      have HJ := Lib.hid hc; have HBA := Lib.hid hba
      clear hc hcc hbb hcb hba
      have hsnoc : (c.k == 1 && inB x y c) = false → ∀ d ∈ l.take (j + 1), (d.k == 1 && inB x y d) = false := by
        intro hq
        rw [take_snoc' HJ.out]
        intro d hd
        rcases List.mem_append.1 hd with hd | hd
        · exact ht.out d hd
        · rw [List.mem_singleton.1 hd]; exact hq
      have HS := Lib.hid hsnoc; clear hsnoc
      cases hk : (c.k == 1) with
      | true =>
        rcases inB_cases x y c with ⟨e1, e2, e3, e4, e5⟩ | ⟨e1, e5⟩ | ⟨e1, e2, e5⟩ | ⟨e1, e2, e3, e5⟩ | ⟨e1, e2, e3, e4, e5⟩
        all_goals
          try have d1 := decide_eq_true e1
          try have d1 := decide_eq_false e1
          try have d2 := decide_eq_true e2
          try have d2 := decide_eq_false e2
          try have d3 := decide_eq_true e3
          try have d3 := decide_eq_false e3
          try have d4 := decide_eq_true e4
          try have d4 := decide_eq_false e4
          have HQ := Lib.hid (show (c.k == 1 && inB x y c) = _ by rw [hk, e5]); clear e5
          go_wp2_with fail
          first
          | exact ⟨⟨j + 1, hlt, num_succ j, HS.out HQ.out, HBA⟩, meas_lt hlt⟩
          | (go_ret2; exact ⟨by rw [hit_at (q := fun c => c.k == 1 && inB x y c) ht.out HJ.out HQ.out]; rfl, HBA.out⟩)
      | false =>
        have HQ : Hid ((c.k == 1 && inB x y c) = false) := by show _ = _; rw [hk]; rfl
        go_wp2_with fail
        exact ⟨⟨j + 1, hlt, num_succ j, HS.out HQ.out, HBA⟩, meas_lt hlt⟩
    · go_wp2_with fail
      go_ret2
      have := ht.out
      rw [List.take_of_length_le (by have := HN.out; omega)] at this
      exact ⟨by rw [hit_none (q := fun c => c.k == 1 && inB x y c) this]; rfl, hb.out⟩

theorem rat_any (v : Value) (l : List Cl) (x y : Int) (w : World) (h : Reads w v l) : Calls Try.prog 34 #[v, .int .i64 x, .int .i64 y] w fun e w' => SeenPost w (atF l x y) e w' := by
  unfold atF
  cases hr : readF l with
  | none => exact rat_none v l x y w h hr
  | some r =>
    simp only [hit_panes]
    exact rat_some v l x y w h r hr

end Go.Proofs.Ytpehceccnjdfeaa
end
