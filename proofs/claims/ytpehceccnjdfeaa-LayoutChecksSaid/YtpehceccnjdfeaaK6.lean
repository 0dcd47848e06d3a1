import Derived.Test.YtpehceccnjdfeaaH0
import Derived.Test.YtpehceccnjdfeaaD9

section
/- room: the program's and the reference's. -/
namespace Go.Proofs.Ytpehceccnjdfeaa
open Go.RowKit

mutual
/-- By how many lines a tree can shrink. -/
def R.roomF (dir : Int) : R → Int
  | .mk k w h _ kids => if k = 1 then ext dir w h - 1 else if k = dir then roomSum dir kids else roomMin dir 1000 kids
def roomSum (dir : Int) : List R → Int
  | [] => 0
  | r :: rs => r.roomF dir + roomSum dir rs
def roomMin (dir : Int) (m : Int) : List R → Int
  | [] => m
  | r :: rs => roomMin dir (min m (r.roomF dir)) rs
end
theorem roomSum_snoc (dir : Int) (r : R) : ∀ (l : List R), roomSum dir (l ++ [r]) = roomSum dir l + r.roomF dir
  | [] => by simp [roomSum]
  | a :: l => by rw [List.cons_append, roomSum, roomSum, roomSum_snoc dir r l]; omega
theorem roomMin_snoc (dir : Int) (r : R) : ∀ (l : List R) (m : Int), roomMin dir m (l ++ [r]) = min (roomMin dir m l) (r.roomF dir)
  | [], m => by simp [roomMin]
  | a :: l, m => by rw [List.cons_append, roomMin, roomMin, roomMin_snoc dir r l]

mutual
theorem room_bd (dir : Int) : ∀ (r : R), r.Bd 0 1000 → -(r.cnt : Int) ≤ r.roomF dir ∧ r.roomF dir ≤ 1000 * r.cnt
  | .mk k w h i kids, hb => by
    simp only [R.Bd] at hb
    have h1 := roomSum_bd dir kids hb.2.2.2.2
    have h2 := roomMin_bd dir kids 1000 (by omega) hb.2.2.2.2
    rw [R.roomF, R.cnt]
    split
    · unfold ext; split <;> omega
    · split <;> omega
theorem roomSum_bd (dir : Int) : ∀ (l : List R), BdL 0 1000 l → -(cntL l : Int) ≤ roomSum dir l ∧ roomSum dir l ≤ 1000 * cntL l
  | [], _ => by simp [roomSum, cntL]
  | r :: rs, hb => by
    simp only [BdL] at hb
    have h1 := room_bd dir r hb.1
    have h2 := roomSum_bd dir rs hb.2
    simp only [roomSum, cntL]; omega
theorem roomMin_bd (dir : Int) : ∀ (l : List R) (m : Int), m ≤ 1000 → BdL 0 1000 l → min m (-(cntL l : Int)) ≤ roomMin dir m l ∧ roomMin dir m l ≤ 1000
  | [], m, hm, _ => by simp [roomMin, cntL]; omega
  | r :: rs, m, hm, hb => by
    simp only [BdL] at hb
    have h1 := room_bd dir r hb.1
    have h2 := roomMin_bd dir rs (min m (r.roomF dir)) (by omega) hb.2
    simp only [roomMin, cntL]; omega
end

theorem BdL_take {lo hi : Int} {l : List R} (h : BdL lo hi l) (j : Nat) : BdL lo hi (l.take j) := by
  induction l generalizing j with
  | nil => simp [BdL]
  | cons a l ih =>
    obtain ⟨h1, h2⟩ := h
    cases j with
    | zero => simp [BdL]
    | succ j => rw [List.take_succ_cons]; exact ⟨h1, ih h2 j⟩

theorem cntL_take {l : List R} {j : Nat} {r : R} (h : l[j]? = some r) : cntL (l.take j) + r.cnt ≤ cntL l := by
  have := congrArg cntL (take_split h)
  rw [cntL_append] at this
  simp only [cntL] at this
  omega

/-! ### The program's -/

def RoomSaid (n : Nat) : Prop := ∀ (a : A) (r : R) (dir : Int) (w : World), r.depth ≤ n → Rep w a r → r.Bd 0 1000 → r.cnt ≤ 1000 →
  Calls Try.prog a.roomF #[a.ptr, .int .i64 dir] w fun e w' => e = .returned (.int .i64 (r.roomF dir)) ∧ w = w'

set_option maxRecDepth 100000 in
theorem room_leaf (b : Nat) (W H dir : Int) (w : World) (h2 : w.cell? ⟨b, 2, none⟩ = some (.int .i64 W)) (h3 : w.cell? ⟨b, 3, none⟩ = some (.int .i64 H)) (hb : 0 ≤ ext dir W H ∧ ext dir W H ≤ 1000) :
    Calls Try.prog 150 #[.pointer (some ⟨b, 0, none⟩), .int .i64 dir] w fun e w' => e = .returned (.int .i64 (ext dir W H - 1)) ∧ w = w' := by
  have hE := extent_any b 0 W H dir w (by simpa using h2) (by simpa using h3)
  generalize ext dir W H = s at *
  have HE := Lib.hid hE; clear hE h2 h3
  go_enter Try.func150, Try.ntmps150
  go_wp2_with fail
  refine HE.out.mono ?_
  rintro e w' ⟨rfl, rfl⟩
  go_wp2_with fail
  go_ret
  exact ⟨by have : IntKind.i64.wrap (s - 1) = s - 1 := by rw [IntKind.wrap_i64]; omega
            simp_all, rfl⟩

theorem room_facts {n : Nat} (ih : RoomSaid n) {w : World} {a off cap m : Nat} {ks : List A} {kids : List R} {j : Nat} {dir : Int} (hdep : depthL kids ≤ n) (hm : m = ks.length) (hrow : Row w a off cap (ks.map A.val)) (hks : Reps w ks kids)
    (hb : BdL 0 1000 kids) (hcnt : cntL kids ≤ 1000) (hlt : j < m) :
    ∃ (kd : A) (r : R), ks[j]? = some kd ∧ kids[j]? = some r ∧ w.cell? ⟨a, off + j, none⟩ = some kd.val ∧ (-1000 ≤ roomSum dir (kids.take j) ∧ roomSum dir (kids.take j) ≤ 1000000) ∧ (-1000 ≤ r.roomF dir ∧ r.roomF dir ≤ 1000000) ∧
      InvokeC Try.prog kd.val "mullion/layout.room" #[.int .i64 dir] w fun e w' => e = .returned (.int .i64 (r.roomF dir)) ∧ w = w' := by
  obtain ⟨kd, hkd⟩ : ∃ kd, ks[j]? = some kd := ⟨ks[j]'(by omega), by simp⟩
  have hI := (Reps_iff w ks kids).1 hks
  obtain ⟨r, hr⟩ : ∃ r, kids[j]? = some r := ⟨kids[j]'(by omega), by simp⟩
  have hmem : r ∈ kids := List.mem_of_getElem? hr
  have hct := cntL_take hr
  have b1 := roomSum_bd dir _ (BdL_take hb j)
  have b2 := room_bd dir r (BdL_mem hb hmem)
  refine ⟨kd, r, hkd, hr, hrow.cell (by simp [hkd]), by omega, by omega, kd.roomF, #[kd.ptr, .int .i64 dir], run_room kd _ w, ih kd r dir w (Nat.le_trans (depth_mem hmem) hdep) (hI.2 j kd r hkd hr) (BdL_mem hb hmem) (by omega)⟩

set_option maxRecDepth 100000 in
theorem room_split (n : Nat) (ih : Hid (RoomSaid n)) (b a off cap m : Nat) (ks : List A) (k : Int) (kids : List R) (dir : Int) (w : World) (hdep : Hid (depthL kids ≤ n)) (hm : Hid (m = ks.length)) (hm2 : m ≤ 1000)
    (hk : w.cell? ⟨b, 4, none⟩ = some (.int .i64 k)) (hc : w.cell? ⟨b, 5, none⟩ = some (.slice (some ⟨a, off, none⟩) m cap)) (hrow : Hid (Row w a off cap (ks.map A.val))) (hks : Hid (Reps w ks kids)) (hbd : Hid (BdL 0 1000 kids)) (hcnt : Hid (cntL kids ≤ 1000))
    (S M : Int) (hS : Hid (roomSum dir kids = S)) (hM : Hid (roomMin dir 1000 kids = M)) :
    Calls Try.prog 153 #[.pointer (some ⟨b, 0, none⟩), .int .i64 dir] w fun e w' => e = .returned (.int .i64 (if k = dir then S else M)) ∧ w = w' := by
  have HL : Hid (ks.length = kids.length) := ((Reps_iff w ks kids).1 hks.out).1
  go_enter Try.func153, Try.ntmps153
  go_wp2_with fail
  go_loop [5, 6, 8, 9, 15] (fun S M _ _ i => ∃ j : Nat, j ≤ m ∧ i = .int .i64 j ∧ S = .int .i64 (roomSum dir (kids.take j)) ∧ M = .int .i64 (roomMin dir 1000 (kids.take j))) (fun _ _ _ _ i => m - (intOf i).toNat)
  case atStart => exact ⟨0, Nat.zero_le _, rfl, by simp [roomSum], by simp [roomMin]⟩
  case round =>
    obtain ⟨j, hj, rfl, rfl, rfl⟩ := hrel
    by_cases hlt : j < m
    · obtain ⟨kd, r, hkd, hr, hcell, b1, b2, hC⟩ := room_facts (dir := dir) ih.out hdep.out hm.out hrow.out hks.out hbd.out hcnt.out hlt
      have HS := Lib.hid (roomSum_snoc dir r (kids.take j)); have HM := Lib.hid (roomMin_snoc dir r (kids.take j) 1000)
      have HT := Lib.hid (take_snoc' hr)
      generalize roomSum dir (kids.take j) = S at *
      generalize roomMin dir 1000 (kids.take j) = M at *
      generalize r.roomF dir = q at *
      generalize kd.val = kv at *
      have HC := Lib.hid hC
      clear hC hkd hr
      have hw : IntKind.i64.wrap (S + q) = S + q := by rw [IntKind.wrap_i64]; omega
      go_wp2_with (first | ((with_reducible refine wpList_same1 rfl (.tmp 19) (.tmp 20) "mullion/layout.room" #[3] rfl (.int .i64 q) ?_ ?_); exact HC.out))
      refine ⟨⟨j + 1, hlt, num_succ j, ?_, ?_⟩, meas_lt hlt⟩
      · rw [HT.out, HS.out]
      · rw [HT.out, HM.out]
    · have hjm : Hid (kids.take j = kids) := List.take_of_length_le (by have := hm.out; have := HL.out; omega)
      rw [hjm.out, hS.out, hM.out]
      by_cases hkd : k = dir
      · have hd : (dir == k) = true := by simp [hkd]
        have HK := Lib.hid hkd; clear hkd
        go_wp2_with fail
        go_ret
        exact ⟨by first | rfl | (rw [if_pos HK.out]; rfl), rfl⟩
      · have hd : (dir == k) = false := by simpa using Ne.symm hkd
        have HK := Lib.hid hkd; clear hkd
        go_wp2_with fail
        go_ret
        exact ⟨by first | rfl | (rw [if_neg HK.out]; rfl), rfl⟩

theorem room_all (n : Nat) : RoomSaid n := by
  induction n with
  | zero =>
    intro a r dir w hd
    cases r
    simp [R.depth] at hd
  | succ n ih =>
    intro a r dir w hdep hr hb hc
    cases a with
    | leaf b =>
      cases r with
      | mk k W H id kids =>
        simp only [Rep] at hr
        obtain ⟨rfl, rfl, x, y, hx⟩ := hr
        simp only [R.Bd] at hb
        rw [R.roomF, if_pos rfl]
        exact room_leaf b W H dir w (blk_cell hx 2) (blk_cell hx 3) (by unfold ext; split <;> omega)
    | split b a off cap ks =>
      cases r with
      | mk k W H id kids =>
        simp only [Rep] at hr
        obtain ⟨_, hk, ⟨x, y, hx⟩, hrow, hks⟩ := hr
        simp only [R.depth] at hdep
        simp only [R.Bd] at hb
        simp only [R.cnt] at hc
        have hl := ((Reps_iff w ks kids).1 hks).1
        have := cntL_length kids
        rw [R.roomF, if_neg (by omega)]
        exact room_split n ih b a off cap ks.length ks k kids dir w (Nat.le_of_succ_le_succ hdep) rfl (by omega) (blk_cell hx 4) (blk_cell hx 5) hrow hks hb.2.2.2.2 (by show _ ≤ _; omega) _ _ rfl rfl

theorem room_inv {a : A} {r : R} (dir : Int) {w : World} (h : Rep w a r) (hb : r.Bd 0 1000) (hc : r.cnt ≤ 1000) : InvokeC Try.prog a.val "mullion/layout.room" #[.int .i64 dir] w fun e w' => e = .returned (.int .i64 (r.roomF dir)) ∧ w = w' :=
  ⟨a.roomF, #[a.ptr, .int .i64 dir], run_room a _ w, room_all r.depth a r dir w (Nat.le_refl _) h hb hc⟩

end Go.Proofs.Ytpehceccnjdfeaa
end

section
/- The reference's Room. -/
namespace Go.Proofs.Ytpehceccnjdfeaa
open Go.RowKit

/-- A number; nothing that was there is changed. -/
def NumPost (w : World) (n : Int) (e : Ending) (w' : World) : Prop := e = .returned (.int .i64 n) ∧ Below w.heap.size w w'

def RRoomSaid (n : Nat) : Prop := ∀ (r : R) (v : Value) (dir : Int) (w : World), r.depth ≤ n → NRep w v r → r.Bd 0 1000 → r.cnt ≤ 1000 → Calls Try.prog 90 #[v, .int .i64 dir] w fun e w' => NumPost w (r.roomF dir) e w'

set_option maxRecDepth 100000 in
theorem rroom_leaf (W H id dir : Int) (m : Nat) (a : Option Addr) (cap : Nat) (w : World) (hb : 0 ≤ ext dir W H ∧ ext dir W H ≤ 1000) : Calls Try.prog 90 #[.agg #[.int .i64 1, .int .i64 W, .int .i64 H, .int .i64 id, .slice a m cap], .int .i64 dir] w fun e w' => NumPost w (ext dir W H - 1) e w' := by
  have hb1 : Below w.heap.size w (w.alloc (.cells #[.int .i64 1, .int .i64 W, .int .i64 H, .int .i64 id, .slice a m cap] 88)) := (Below.refl _ _).alloc (Nat.le_refl _) _
  have hX := rext_any 1 W H id dir a m cap (w.alloc (.cells #[.int .i64 1, .int .i64 W, .int .i64 H, .int .i64 id, .slice a m cap] 88))
  generalize ext dir W H = s at *
  have HX := Lib.hid hX; have HB1 := Lib.hid hb1; clear hX hb1
  go_enter Try.func90, Try.ntmps90
  go_wp2_with fail
  refine HX.out.mono ?_
  rintro e w2 ⟨rfl, hb2⟩
  have HB2 := Lib.hid (HB1.out.trans (hb2.mono HB1.out.size)); clear hb2
  go_wp2_with fail
  go_ret
  exact ⟨by have : IntKind.i64.wrap (s - 1) = s - 1 := by rw [IntKind.wrap_i64]; omega
            simp_all, HB2.out⟩

structure RRoomLoop (w : World) (bv : Array Value) (wr : World) : Prop where
  bel : Below w.heap.size w wr
  box : wr.heap[w.heap.size]? = some (.cells bv 88 (0, 0))

theorem rroom_facts {n : Nat} (ih : RRoomSaid n) {w wr : World} {a : Option Addr} {kids : List R} {j m : Nat} {dir : Int} (hdep : depthL kids ≤ n) (hm : m = kids.length) (hbel : Below w.heap.size w wr)
    (hat : kids ≠ [] → ∃ b off, a = some ⟨b, off, none⟩ ∧ ∀ j r, kids[j]? = some r → NAt w b (off + j * 5) r) (hb : BdL 0 1000 kids) (hcnt : cntL kids + 1 ≤ 1000)
    (hlt : j < m) : ∃ (b off : Nat) (r : R) (sa : Option Addr) (sc : Nat), a = some ⟨b, off, none⟩ ∧ kids[j]? = some r ∧ wr.cell? ⟨b, off + j * 5, none⟩ = some (.int .i64 r.kind) ∧ wr.cell? ⟨b, off + j * 5 + 1, none⟩ = some (.int .i64 r.w) ∧
      wr.cell? ⟨b, off + j * 5 + 2, none⟩ = some (.int .i64 r.h) ∧ wr.cell? ⟨b, off + j * 5 + 3, none⟩ = some (.int .i64 r.id) ∧ wr.cell? ⟨b, off + j * 5 + 4, none⟩ = some (.slice sa r.kids.length sc) ∧
      (-1000 ≤ roomSum dir (kids.take j) ∧ roomSum dir (kids.take j) ≤ 1000000) ∧ (-1000 ≤ r.roomF dir ∧ r.roomF dir ≤ 1000000) ∧
      Calls Try.prog 90 #[.agg #[.int .i64 r.kind, .int .i64 r.w, .int .i64 r.h, .int .i64 r.id, .slice sa r.kids.length sc], .int .i64 dir] wr fun e w' => NumPost wr (r.roomF dir) e w' := by
  obtain ⟨r, hr⟩ : ∃ r, kids[j]? = some r := ⟨kids[j]'(by omega), by simp⟩
  obtain ⟨b, off, ha, hA⟩ := hat (by rintro rfl; simp at hr)
  obtain ⟨_, ⟨sa, sc, rfl⟩, h1, h2, h3, h4, h5, h6⟩ := ((hA j r hr).below hbel).rep
  have hmem := List.mem_of_getElem? hr
  have hct := cntL_take hr
  have b1 := roomSum_bd dir _ (BdL_take hb j)
  have b2 := room_bd dir r (BdL_mem hb hmem)
  exact ⟨b, off, r, sa, sc, ha, hr, h2, h3, h4, h5, h6, by omega, by omega, ih r _ dir wr (Nat.le_trans (depth_mem hmem) hdep) h1 (BdL_mem hb hmem) (by omega)⟩

set_option maxRecDepth 100000 in
set_option maxHeartbeats 1000000 in
theorem rroom_node (n : Nat) (ih : Hid (RRoomSaid n)) (k W H id dir : Int) (kids : List R) (m : Nat) (a : Option Addr) (cap : Nat) (w : World) (hk : ¬ k = 1) (hdep : Hid (depthL kids ≤ n)) (hm : Hid (m = kids.length)) (hm1 : m ≤ 1000) (hm2 : m ≤ cap) (hcap : cap ≤ maxLen)
    (hat : Hid (kids ≠ [] → ∃ b off, a = some ⟨b, off, none⟩ ∧ ∀ j r, kids[j]? = some r → NAt w b (off + j * 5) r)) (hbd : Hid (BdL 0 1000 kids)) (hcnt : Hid (cntL kids + 1 ≤ 1000)) (S M : Int) (hS : Hid (roomSum dir kids = S)) (hM : Hid (roomMin dir 1000 kids = M)) :
    Calls Try.prog 90 #[.agg #[.int .i64 k, .int .i64 W, .int .i64 H, .int .i64 id, .slice a m cap], .int .i64 dir] w fun e w' => NumPost w (if k = dir then S else M) e w' := by
  have hk2 : (k == 1) = false := by simpa using hk
  go_enter Try.func90, Try.ntmps90
  go_wp2_with fail
  go_loopw [5, 6, 7, 8] (fun s t i _ wr => ∃ j : Nat, j ≤ m ∧ i = .int .i64 j ∧ s = .int .i64 (roomSum dir (kids.take j)) ∧ t = .int .i64 (roomMin dir 1000 (kids.take j)) ∧ RRoomLoop w #[.int .i64 k, .int .i64 W, .int .i64 H, .int .i64 id, .slice a m cap] wr) (fun _ _ i _ _ => m - (intOf i).toNat)
  case atStart => exact ⟨0, Nat.zero_le _, rfl, by simp [roomSum], by simp [roomMin], (Below.refl _ _).alloc (Nat.le_refl _) _, heap_alloc_new w _⟩
  case round =>
    obtain ⟨j, hj, rfl, rfl, rfl, hL⟩ := hrel
    have c4 : wr.cell? ⟨w.heap.size, 4, none⟩ = some (.slice a m cap) := blk_cell hL.box 4
    have c0 : wr.cell? ⟨w.heap.size, 0, none⟩ = some (.int .i64 k) := blk_cell hL.box 0
    by_cases hlt : j < m
    · obtain ⟨b, off, r, sa, sc, rfl, hr, k0, k1, k2, k3, k4, b1, b2, hC⟩ := rroom_facts (dir := dir) ih.out hdep.out hm.out hL.bel hat.out hbd.out hcnt.out hlt
      have HS := Lib.hid (roomSum_snoc dir r (kids.take j)); have HM := Lib.hid (roomMin_snoc dir r (kids.take j) 1000)
      have HT := Lib.hid (take_snoc' hr)
      generalize roomSum dir (kids.take j) = s at *
      generalize roomMin dir 1000 (kids.take j) = t at *
      generalize r.roomF dir = q at *
      have hw : IntKind.i64.wrap (s + q) = s + q := by rw [IntKind.wrap_i64]; omega
      have HC := Lib.hid hC; have HL := Lib.hid hL
      clear hC hL hr hat
      go_wp2_with fail
      refine HC.out.mono ?_
      rintro e w2 ⟨rfl, hb2⟩
      have HB2 := Lib.hid hb2
      clear hb2 c4 c0 k0 k1 k2 k3 k4
      go_wp2_with fail
      refine ⟨⟨j + 1, hlt, num_succ j, ?_, ?_, HL.out.bel.trans (HB2.out.mono HL.out.bel.size), blk_below HL.out.box HB2.out⟩, meas_lt hlt⟩
      · rw [HT.out, HS.out]
      · rw [HT.out, HM.out]
    · have hjm : Hid (kids.take j = kids) := List.take_of_length_le (by have := hm.out; omega)
      rw [hjm.out, hS.out, hM.out]
      have HB := Lib.hid hL.bel; clear hL
      by_cases hkd : k = dir
      · have hd : (k == dir) = true := by simp [hkd]
        have HK := Lib.hid hkd; clear hkd
        go_wp2_with fail
        go_ret
        exact ⟨by first | rfl | (rw [if_pos HK.out]; rfl), HB.out⟩
      · have hd : (k == dir) = false := by simpa using hkd
        have HK := Lib.hid hkd; clear hkd
        go_wp2_with fail
        go_ret
        exact ⟨by first | rfl | (rw [if_neg HK.out]; rfl), HB.out⟩

theorem rroom_all (n : Nat) : RRoomSaid n := by
  induction n with
  | zero =>
    intro r v dir w hd
    cases r
    simp [R.depth] at hd
  | succ n ih =>
    intro r v dir w hdep hr hb hc
    cases r with
    | mk k W H id kids =>
      obtain ⟨a, cap, rfl, h1, h2, h3⟩ := hr.open
      simp only [R.depth] at hdep
      simp only [R.cnt] at hc
      simp only [R.Bd] at hb
      have := cntL_length kids
      by_cases hk : k = 1
      · subst hk; rw [R.roomF, if_pos rfl]; exact rroom_leaf W H id dir _ a cap w (by unfold ext; split <;> omega)
      · rw [R.roomF, if_neg hk]
        exact rroom_node n ih k W H id dir kids kids.length a cap w hk (Nat.le_of_succ_le_succ hdep) rfl (by omega) h1 h2 h3 hb.2.2.2.2 hc _ _ rfl rfl

theorem rroom_any (r : R) (v : Value) (dir : Int) (w : World) (h : NRep w v r) (hb : r.Bd 0 1000) (hc : r.cnt ≤ 1000) : Calls Try.prog 90 #[v, .int .i64 dir] w fun e w' => NumPost w (r.roomF dir) e w' := rroom_all r.depth r v dir w (Nat.le_refl _) h hb hc

end Go.Proofs.Ytpehceccnjdfeaa
end
