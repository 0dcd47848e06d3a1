/- order: the ids of the panes of a tree. -/
import Derived.Test.YtpehceccnjdfeaaC2
namespace Go.Proofs.Ytpehceccnjdfeaa
open Go.RowKit

/-- The cell of a pane lies in that block. -/
def LeafAt (w : World) (b : Nat) (c : Cl) : Prop := w.heap[b]? = some (.cells #[.int .i64 c.x, .int .i64 c.y, .int .i64 c.w, .int .i64 c.h, .int .i64 c.p] 100 (0, 0))

def Fits (w : World) : List Nat → List Cl → Prop
  | [], [] => True
  | b :: bs, c :: cs => LeafAt w b c ∧ Fits w bs cs
  | [], _ :: _ => False
  | _ :: _, [] => False
theorem Fits.append {w : World} : ∀ {bs ds : List Nat} {cs es : List Cl}, Fits w bs cs → Fits w ds es → Fits w (bs ++ ds) (cs ++ es)
  | [], _, [], _, _, h => by simpa using h
  | b :: bs, _, c :: cs, _, h, k => by simp only [Fits, List.cons_append] at h ⊢; exact ⟨h.1, h.2.append k⟩
  | [], _, _ :: _, _, h, _ => by simp [Fits] at h
  | _ :: _, _, [], _, h, _ => by simp [Fits] at h
theorem Fits.len {w : World} : ∀ {bs : List Nat} {cs : List Cl}, Fits w bs cs → bs.length = cs.length
  | [], [], _ => rfl
  | b :: bs, c :: cs, h => by simp only [Fits, List.length_cons] at h ⊢; rw [h.2.len]
  | [], _ :: _, h => by simp [Fits] at h
  | _ :: _, [], h => by simp [Fits] at h
theorem Fits.at {w : World} : ∀ {bs : List Nat} {cs : List Cl}, Fits w bs cs → ∀ {i : Nat} {b : Nat}, bs[i]? = some b → ∃ c, cs[i]? = some c ∧ LeafAt w b c
  | [], [], _, i, b, hb => by simp at hb
  | b :: bs, c :: cs, h, i, b', hb => by
    simp only [Fits] at h
    cases i with
    | zero => simp at hb; subst hb; exact ⟨c, rfl, h.1⟩
    | succ i => exact h.2.at (by simpa using hb)
  | [], _ :: _, h, _, _, _ => by simp [Fits] at h
  | _ :: _, [], h, _, _, _ => by simp [Fits] at h

/-- The cells of the panes. -/
def panesOf (l : List Cl) : List Cl := l.filter fun c => c.k == 1
theorem panesOf_append (l m : List Cl) : panesOf (l ++ m) = panesOf l ++ panesOf m := List.filter_append ..

mutual
theorem fits_any {w : World} : ∀ (a : A) (r : R) (d x y : Int), Rep w a r → Pos w a r x y → Fits w a.lvs (panesOf (r.lay d x y))
  | .leaf b, .mk k W H id kids, d, x, y, h, hp => by
    simp only [Rep] at h
    simp only [Pos] at hp
    obtain ⟨rfl, rfl, x0, y0, hb⟩ := h
    have h0 := hp.1; have h1 := hp.2
    rw [blk_cell hb] at h0 h1
    simp at h0 h1
    subst h0 h1
    simp [A.lvs, R.lay, layL, panesOf, Fits, LeafAt, hb]
  | .split b a off cap ks, .mk k W H id kids, d, x, y, h, hp => by
    simp only [Rep] at h
    simp only [Pos] at hp
    have hk : (k == 1) = false := by have := h.2.1; simp; omega
    have := fitsL_any ks kids k (d + 1) x y h.2.2.2.2 hp
    simpa [A.lvs, R.lay, panesOf, hk] using this
theorem fitsL_any {w : World} : ∀ (l : List A) (rs : List R) (k d x y : Int), Reps w l rs → PosL w k l rs x y → Fits w (lvsL l) (panesOf (layL k d x y rs))
  | [], [], _, _, _, _, _, _ => by simp [lvsL, layL, panesOf, Fits]
  | a :: tl, r :: rs, k, d, x, y, h, hp => by
    simp only [Reps] at h
    simp only [PosL] at hp
    have h1 := fits_any a r d x y h.1 hp.1
    have h2 := fitsL_any tl rs k d _ _ h.2 hp.2
    simp only [lvsL, layL, panesOf_append]
    exact h1.append h2
  | [], _ :: _, _, _, _, _, h, _ => by simp [Reps] at h
  | _ :: _, [], _, _, _, _, h, _ => by simp [Reps] at h
end

mutual
theorem ids_panes {w : World} : ∀ (a : A) (r : R) (d x y : Int), Rep w a r → (panesOf (r.lay d x y)).map Cl.p = r.ids
  | .leaf b, .mk k W H id kids, d, x, y, h => by
    simp only [Rep] at h
    obtain ⟨rfl, rfl, _⟩ := h
    simp [R.lay, layL, panesOf, R.ids]
  | .split b a off cap ks, .mk k W H id kids, d, x, y, h => by
    simp only [Rep] at h
    have hk : (k == 1) = false := by have := h.2.1; simp; omega
    have hk2 : ¬ k = 1 := by have := h.2.1; omega
    have := idsL_panes ks kids k (d + 1) x y h.2.2.2.2
    simpa [R.lay, panesOf, hk, R.ids, hk2] using this
theorem idsL_panes {w : World} : ∀ (l : List A) (rs : List R) (k d x y : Int), Reps w l rs → (panesOf (layL k d x y rs)).map Cl.p = idsL rs
  | [], [], _, _, _, _, _ => by simp [layL, panesOf, idsL]
  | a :: tl, r :: rs, k, d, x, y, h => by
    simp only [Reps] at h
    have h1 := ids_panes a r d x y h.1
    have h2 := idsL_panes tl rs k d (if k = 2 then x + r.w + 1 else x) (if k = 2 then y else y + r.h + 1) h.2
    simp only [layL, panesOf_append, List.map_append, idsL, h1, h2]
  | [], _ :: _, _, _, _, _, h => by simp [Reps] at h
  | _ :: _, [], _, _, _, _, h => by simp [Reps] at h
end

/-- The ids of the panes in their blocks. -/
theorem lvs_ids {w : World} {a : A} {r : R} {x y : Int} (h : Rep w a r) (hp : Pos w a r x y) : a.lvs.length = r.ids.length ∧ ∀ (i b : Nat), a.lvs[i]? = some b → ∃ c : Cl, r.ids[i]? = some c.p ∧ LeafAt w b c ∧ (panesOf (r.lay 0 x y))[i]? = some c := by
  have hf := fits_any a r 0 x y h hp
  have hi := ids_panes a r 0 x y h
  refine ⟨by rw [hf.len, ← hi, List.length_map], fun i b hb => ?_⟩
  obtain ⟨c, hc, hl⟩ := hf.at hb
  exact ⟨c, by rw [← hi, List.getElem?_map, hc]; rfl, hl, hc⟩

def ints (l : List Int) : List Value := l.map (Value.int .i64)

/-- A list of numbers of the call's own. -/
def IntsPost (w : World) (l : List Int) (e : Ending) (w' : World) : Prop :=
  ∃ v, e = .returned v ∧ w'.ownsRow w.heap.size 3 1 v l.length (ints l) ∧ Below w.heap.size w w'

def OrderLoop (w : World) (vl : Value) (bs : List Nat) (l : List Int) (j : Nat) (v : Value) (wr : World) : Prop :=
  wr.ownsRow w.heap.size 95 1 vl bs.length (bs.map ptrOf) ∧ wr.ownsRow w.heap.size 3 1 v j (ints (l.take j)) ∧ Below w.heap.size w wr

set_option maxRecDepth 100000 in
set_option maxHeartbeats 1000000 in
theorem order_any (a : A) (r : R) (x y : Int) (w : World) (hr : Rep w a r) (hp : Pos w a r x y) (hf : r.Fed) (hc : r.cnt ≤ 1000) : Calls Try.prog 85 #[a.val] w fun e w' => IntsPost w r.ids e w' := by
  obtain ⟨hlen, hat⟩ := lvs_ids hr hp
  have hle := lvs_len a r hr
  have hpos := lvs_pos a r hr hf
  have hC := leaves_any r.depth a r w (Nat.le_refl _) hr hf hc
  have HC := Lib.hid hC; have HAT := Lib.hid hat
  obtain ⟨i0, hi0, hz0, hz1, hz2⟩ := info_parts info3
  have Hi := Lib.hid hi0; have Hz0 := Lib.hid hz0; have Hz1 := Lib.hid hz1; have Hz2 := Lib.hid hz2
  clear hi0 hz0 hz1 hz2 hC hat hr hp hf
  generalize a.val = v at *
  generalize a.lvs = bs at *
  generalize hn : bs.length = n at *
  have HN := Lib.hid hn; clear hn
  have HLEN := Lib.hid hlen; clear hlen
  go_enter Try.func85, Try.ntmps85
  go_wp2_with fail
  refine HC.out.mono ?_
  rintro e w1 ⟨vl, rfl, o1, hb1⟩
  obtain ⟨g, cap, rfl, hg, _⟩ := o1.form (by rw [HN.out]; exact hpos)
  have HO1 := Lib.hid o1; have HB1 := Lib.hid hb1
  clear o1 hb1
  rw [HN.out] at HO1 ⊢
  go_wp2_with fail
  go_loopw [3, 9] (fun v i wr => ∃ j : Nat, j ≤ n ∧ i = .int .i64 j ∧ OrderLoop w (.slice (some ⟨g, 0, none⟩) n cap) bs r.ids j v wr) (fun _ i _ => n - (intOf i).toNat)
  case atStart => exact ⟨0, Nat.zero_le _, rfl, by rw [HN.out]; exact HO1.out, by simpa [ints] using World.ownsRow_nil _ _ _ _, HB1.out⟩
  case round =>
    obtain ⟨j, hj, rfl, hL⟩ := hrel
    obtain ⟨va, vc, hv⟩ := own_slice hL.2.1
    by_cases hlt : j < n
    · obtain ⟨b, hb⟩ : ∃ b, bs[j]? = some b := ⟨bs[j]'(by rw [HN.out]; exact hlt), by simp⟩
      obtain ⟨c, hid, hla, _⟩ := HAT.out j b hb
      have c1 : wr.cell? ⟨g, j, none⟩ = some (.pointer (some ⟨b, 0, none⟩)) := by
        have := hL.1
        rw [HN.out] at this
        rw [this.cellAt j (by omega), List.getElem?_map, hb]; rfl
      have c2 : wr.cell? ⟨b, 4, none⟩ = some (.int .i64 c.p) := (hL.2.2.cell (p := ⟨b, 4, none⟩) (blk_lt hla)).trans (blk_cell hla 4)
      have hsz := hL.2.2.size
      have HL := Lib.hid (hv ▸ hL); have HID := Lib.hid hid
      clear hL hid hla hb
      subst hv
      go_wp2_with (at_builtin; go_must (refine wpList_append_lies _ rfl (.tmp 13) (.tmp 18) 62 rfl w.heap.size 3 i0 _ 1 8 Try.underlying62 Hi.out Hz0.out Hz1.out Hz2.out rfl (by decide) (.slice va j vc) _ _ rfl (HL.out.2.1.alloc _) ⟨wr.heap.size, 0, none⟩ 1 1 [.int .i64 c.p] rfl rfl (World.news_of_block (cs := #[.int .i64 c.p]) (t := 3) (fr := (0, 0)) (heap_alloc_new wr _)) (by simp [Value.oneCell']) (by omega) (by unfold maxLen; omega) (by omega) (by simp; omega) (wr.heap.size + 1) (by simp) ?_); intro g3 cap3 w3 hown3 hgrow3 hat3 hlt3; have Hown3 := Lib.hid hown3; have Hgrow3 := Lib.hid hgrow3; clear hown3 hgrow3)
      refine ⟨⟨j + 1, hlt, num_succ j, ?_, ?_, ?_⟩, meas_lt hlt⟩
      · have h1 := HL.out.1.alloc (.cells #[.int .i64 c.p] 3)
        obtain ⟨cs, hcs⟩ := ownsRow_ty h1 rfl
        exact ownsRow_upd h1 ((Upd.refl (fun k => (Value.slice va j vc).ownBlock = some k) _).grown Hgrow3.out (fun k _ e => e)) (fun k hk e => by
          obtain rfl : g = k := by simpa [Value.ownBlock] using hk
          exact ownsRow_ne (HL.out.2.1.alloc _) hcs (by decide) e)
      · rw [take_snoc' HID.out]
        simpa [ints] using Hown3.out
      · exact (HL.out.2.2.alloc (by omega) _).grown Hgrow3.out (by simp; omega) (fun q hq => (World.ownsRow.lt HL.out.2.1 q hq).1)
    · have HL := Lib.hid hL; clear hL
      go_wp2_with fail
      go_ret
      have h2 := HL.out.2.1
      have hjn : j = n := by omega
      have h3 : n = r.ids.length := HLEN.out
      rw [List.take_of_length_le (by omega), hjn, h3] at h2
      exact ⟨_, rfl, h2, HL.out.2.2⟩

end Go.Proofs.Ytpehceccnjdfeaa
