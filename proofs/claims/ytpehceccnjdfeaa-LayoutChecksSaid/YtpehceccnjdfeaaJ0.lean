/- The reference's sized and joined. -/
import Derived.Test.YtpehceccnjdfeaaF9
import Derived.Deep.Slices
namespace Go.Proofs.Ytpehceccnjdfeaa
open Go.RowKit

/-- Children, one more behind them: one of their parent's kind gives its children. -/
def joinedF (kids : List R) (kind : Int) (k : R) : List R := if k.kind = kind then kids ++ k.kids else kids ++ [k]
/-- A pane of that id, as large as a node but for its extent in a direction. -/
def sizedF (W H id dir size : Int) : R := .mk 1 (if dir = 2 then size else W) (if dir = 2 then H else size) id []

theorem sized_any (k W H i : Int) (a : Option Addr) (n c : Nat) (id dir size : Int) (w : World) : Calls Try.prog 98 #[.agg #[.int .i64 k, .int .i64 W, .int .i64 H, .int .i64 i, .slice a n c], .int .i64 id, .int .i64 dir, .int .i64 size] w fun e w' =>
    e = .returned (.agg #[.int .i64 1, .int .i64 (sizedF W H id dir size).w, .int .i64 (sizedF W H id dir size).h, .int .i64 id, .slice none 0 0]) ∧ Below w.heap.size w w' := by
  have far : ∀ (o1 o2 o3 : Obj), (((w.alloc o1).alloc o2).alloc o3).heap[w.heap.size + 1]? = some o2 := fun o1 o2 o3 => by
    have := heap_alloc_new (w.alloc o1) o2
    rw [World.size_alloc] at this
    exact blk_alloc this _
  have hb : ∀ (o1 o2 o3 : Obj), Below w.heap.size w (((w.alloc o1).alloc o2).alloc o3) := fun o1 o2 o3 => (((Below.refl _ _).alloc (Nat.le_refl _) _).alloc (by simp) _).alloc (by simp; omega) _
  by_cases h : dir = 2
  · subst h
    simp only [sizedF, R.w, R.h, if_true]
    go_enter Try.func98, Try.ntmps98
    go_wp2_with fail
    (try simp only [Exit.inBlock, Exit.then])
    refine bodyPost_ret (res_node1 rfl _ _ (w.heap.size + 1) _ rfl (far _ _ _) rfl) rfl ?_
    exact ⟨rfl, hb _ _ _⟩
  · have h2 : (dir == 2) = false := by simpa using h
    simp only [sizedF, R.w, R.h, if_neg h]
    clear h
    go_enter Try.func98, Try.ntmps98
    go_wp2_with fail
    (try simp only [Exit.inBlock, Exit.then])
    refine bodyPost_ret (res_node1 rfl _ _ (w.heap.size + 1) _ rfl (far _ _ _) rfl) rfl ?_
    exact ⟨rfl, hb _ _ _⟩

/-- What joined leaves. -/
def JoinPost (w : World) (B : Nat) (S : Nat → Prop) (v : Value) (rs : List R) (e : Ending) (w' : World) : Prop :=
  ∃ v', e = .returned v' ∧ NOwn w' B S v' rs ∧ Upd (fun b => v.ownBlock = some b) w w' ∧ (∀ g, v'.ownBlock = some g → v.ownBlock = some g ∨ w.heap.size ≤ g)

theorem join_out {w wa w3 : World} {B : Nat} {S : Nat → Prop} {v : Value} {rs rs' : List R} {ss ss' : List Value} {g cap n m : Nat} (hn : rs.length = n) (hm : rs'.length = m) (hua : Upd (fun _ => False) w wa) (h1 : ss.length = n) (h1' : ss'.length = m)
    (h3 : ∀ (i : Nat) (r : R) (s : Value), rs[i]? = some r → ss[i]? = some s → NKS (fun b => S b ∧ v.ownBlock ≠ some b) w s r)
    (h3' : ∀ (i : Nat) (r : R) (s : Value), rs'[i]? = some r → ss'[i]? = some s → NKS (fun b => S b ∧ v.ownBlock ≠ some b) w s r)
    (hS : ∀ b, S b → b < w.heap.size)
    (hown : w3.ownsRow B 88 5 (.slice (some ⟨g, 0, none⟩) (n + m) cap) (n + m) (rowVals rs ss ++ rowVals rs' ss'))
    (hg : wa.grownBy w3 v.ownBlock) (hat : v.ownBlock = some g ∨ g = wa.heap.size) : JoinPost w B S v (rs ++ rs') (.returned (.slice (some ⟨g, 0, none⟩) (n + m) cap)) w3 := by
  subst hn hm
  have mv : ∀ {r : R} {s : Value}, NKS (fun b => S b ∧ v.ownBlock ≠ some b) w s r → NKS (fun b => S b ∧ v.ownBlock ≠ some b) wa s r := fun h => h.upd (fun b hb => hb) (fun b hb => hua.block b (hS b hb.1) (fun h => h))
  have sa := hua.size
  refine ⟨_, rfl, NOwn.app h1 h1' (fun i r s hr hs => mv (h3 i r s hr hs)) (fun i r s hr hs => mv (h3' i r s hr hs)) (fun b hb => by have := hS b hb; omega) hown hg hat, (hua.mono fun _ _ h => h.elim).grown hg (fun k _ e => e), ?_⟩
  intro g' hg'
  simp only [Value.ownBlock, Option.some.injEq] at hg'
  subst hg'
  rcases hat with e | e
  · exact .inl e
  · exact .inr (by omega)

theorem addp (b o i : Nat) : (⟨b, o, none⟩ : Addr).add i = ⟨b, o + i, none⟩ := by unfold Addr.add; split <;> simp_all

/-- The cells of the children that a node has. -/
theorem kids_row {S : Nat → Prop} {w : World} {k : R} {sa : Option Addr} {n sc : Nat} (h : NKS S w (.slice sa n sc) k) (hn : k.kids.length = n) (hne : 0 < n) : ∃ b off ss, sa = some ⟨b, off, none⟩ ∧ ss.length = n ∧ (∀ (i : Nat) (r : R) (s : Value), k.kids[i]? = some r → ss[i]? = some s → NKS S w s r) ∧
    (∀ j u, (rowVals k.kids ss)[j]? = some u → w.cell? ((⟨b, off, none⟩ : Addr).add j) = some u) ∧ (∀ s ∈ ss, s.oneCell' = true) := by
  obtain ⟨kk, W, H, i, kids⟩ := k
  simp only [NKS] at h
  obtain ⟨a, cap, e, _, _, h4⟩ := h
  simp only [Value.slice.injEq] at e
  obtain ⟨rfl, _, rfl⟩ := e
  simp only [R.kids] at hn ⊢
  obtain ⟨b, off, rfl, _, h5⟩ := h4 (by rintro rfl; simp at hn; omega)
  have h6 := (NLS_iff kids 0).1 h5
  have hch : ∀ i, i < n → ∃ s, ∀ r, kids[i]? = some r → (∀ c, c < 5 → w.cell? ⟨b, off + i * 5 + c, none⟩ = (nvals r s)[c]?) ∧ NKS S w s r := by
    intro i hi
    have hr : kids[i]? = some (kids[i]'(by omega)) := by simp
    obtain ⟨s, e1, e2⟩ := h6 i _ hr
    rw [Nat.zero_add] at e1
    exact ⟨s, fun r hr' => by rw [hr] at hr'; cases hr'; exact ⟨e1, e2⟩⟩
  obtain ⟨f, hf⟩ := Go.Deep.choose_lt (α := Value) (p := fun i s => ∀ r, kids[i]? = some r → (∀ c, c < 5 → w.cell? ⟨b, off + i * 5 + c, none⟩ = (nvals r s)[c]?) ∧ NKS S w s r) hch
  have hget : ∀ i s, ((List.range n).map f)[i]? = some s → i < n ∧ s = f i := by
    intro i s hs
    rw [List.getElem?_map] at hs
    have hi : i < n := by
      by_cases h : i < n
      · exact h
      · rw [List.getElem?_eq_none (by simp; omega)] at hs; cases hs
    rw [List.getElem?_range hi] at hs
    simp only [Option.map_some, Option.some.injEq] at hs
    exact ⟨hi, hs.symm⟩
  refine ⟨b, off, (List.range n).map f, rfl, by simp, ?_, ?_, ?_⟩
  · intro i r s hr hs
    obtain ⟨hi, rfl⟩ := hget i s hs
    exact (hf i hi r hr).2
  · intro j u hu
    have hj := (List.getElem?_eq_some_iff.1 hu).1
    rw [rowVals_length _ _ (by simp [hn])] at hj
    have hi : j / 5 < n := by omega
    have hr : kids[j / 5]? = some (kids[j / 5]'(by omega)) := by simp
    have e1 := (hf _ hi _ hr).1 (j % 5) (Nat.mod_lt _ (by omega))
    have e2 := rowVals_at kids ((List.range n).map f) (j / 5) _ (f (j / 5)) (j % 5) hr (by rw [List.getElem?_map, List.getElem?_range hi]; rfl) (Nat.mod_lt _ (by omega))
    rw [show j / 5 * 5 + j % 5 = j by omega] at e2
    rw [← e2, hu, show off + j / 5 * 5 + j % 5 = off + j by omega] at e1
    rw [addp]
    exact e1
  · intro s hs
    obtain ⟨i, hi, rfl⟩ := List.mem_map.1 hs
    have hi' := List.mem_range.1 hi
    have hr : kids[i]? = some (kids[i]'(by omega)) := by simp
    obtain ⟨a', c', e⟩ := (hf i hi' _ hr).2.nk.form
    rw [e]; rfl

set_option maxRecDepth 100000 in
set_option maxHeartbeats 1000000 in
theorem joined_any (B : Nat) (S : Nat → Prop) (v : Value) (rs : List R) (kind : Int) (k : R) (sa : Option Addr) (n sc : Nat) (w : World) (hn : Hid (k.kids.length = n)) (hN : Hid (NOwn w B S v rs)) (hk : Hid (NKS (fun b => S b ∧ v.ownBlock ≠ some b) w (.slice sa n sc) k)) (hS : Hid (∀ b, S b → b < w.heap.size)) (hB : B ≤ w.heap.size) (hlen : rs.length + n + 1 ≤ 1000) (hkk : k.kind = kind → 0 < n) :
    Calls Try.prog 127 #[v, .int .i64 kind, .agg #[.int .i64 k.kind, .int .i64 k.w, .int .i64 k.h, .int .i64 k.id, .slice sa n sc]] w fun e w' => JoinPost w B S v (joinedF rs kind k) e w' := by
  obtain ⟨i0, hi0, hz0, hz1, hz2⟩ := info_parts info88
  have Hi := Lib.hid hi0; have Hz0 := Lib.hid hz0; have Hz1 := Lib.hid hz1; have Hz2 := Lib.hid hz2
  clear hi0 hz0 hz1 hz2
  obtain ⟨va, vc, hv⟩ := hN.out.slice
  obtain ⟨ss, h1, h2, h3⟩ := hN.out
  subst hv
  have H1 := Lib.hid h1; have H2 := Lib.hid h2; have H3 := Lib.hid h3
  clear h1 h2 h3 hN
  generalize hm : rs.length = m at *
  have HM := Lib.hid hm; clear hm
  by_cases he : k.kind = kind
  · have hj : joinedF rs kind k = rs ++ k.kids := by unfold joinedF; rw [if_pos he]
    rw [hj]
    have hn0 := hkk he
    obtain ⟨b, off, ss', rfl, g1, g2, g3, g4⟩ := kids_row hk.out hn.out hn0
    have he' : (k.kind == kind) = true := by simpa using he
    have hrl : (rowVals k.kids ss').length = n * 5 := by rw [rowVals_length _ _ (by rw [g1, hn.out]), hn.out]
    have hr1 := rowVals_one (rs := k.kids) g4
    have G1 := Lib.hid g1; have G2 := Lib.hid g2; have G3 := Lib.hid g3; have HRL := Lib.hid hrl; have HR1 := Lib.hid hr1
    clear he hkk hj g1 g2 g3 g4 hrl hr1
    generalize hkd : k.kind = kd at *
    generalize hrv : rowVals k.kids ss' = rv at *
    have HRV := Lib.hid hrv; clear hrv hkd
    go_enter Try.func127, Try.ntmps127
    go_wp2_with (at_builtin; go_loud (refine wpList_append_lies _ rfl (.tmp 11) (.tmp 13) 86 rfl B 88 i0 _ 5 56 Try.underlying86 Hi.out Hz0.out Hz1.out Hz2.out rfl (by decide) (.slice va m vc) m (rowVals rs ss) rfl (H2.out.alloc _) ⟨b, off, none⟩ n sc rv rfl HRL.out (fun j u hu => cell_below ((Below.refl _ w).alloc (Nat.le_refl _) _) (G3.out j u hu)) HR1.out hn0 (by unfold maxLen; omega) (by omega) (by simp; omega) (w.heap.size + 1) (by simp) ?_); intro g3 cap3 w3 hown3 hgrow3 hat3 hlt3; have Hown3 := Lib.hid hown3; have Hgrow3 := Lib.hid hgrow3; have Hat3 := Lib.hid hat3; clear hown3 hgrow3 hat3)
    go_ret
    refine join_out (ss := ss) (ss' := ss') HM.out hn.out ((Upd.refl _ w).alloc _) H1.out G1.out H3.out G2.out hS.out ?_ Hgrow3.out (by simpa using Hat3.out)
    rw [HRV.out]; exact Hown3.out
  · have hj : joinedF rs kind k = rs ++ [k] := by unfold joinedF; rw [if_neg he]
    rw [hj]
    have he' : (k.kind == kind) = false := by simpa using he
    clear he hkk hj
    generalize hkd : k.kind = kd at *
    have HKD := Lib.hid hkd; clear hkd
    have HM2 := HM.out
    clear HM
    have HM := Lib.hid HM2; clear HM2
    go_enter Try.func127, Try.ntmps127
    go_wp2_with (at_builtin; go_loud (refine wpList_append_lies _ rfl (.tmp 15) (.tmp 17) 86 rfl B 88 i0 _ 5 56 Try.underlying86 Hi.out Hz0.out Hz1.out Hz2.out rfl (by decide) (.slice va m vc) m (rowVals rs ss) rfl ((H2.out.alloc _).alloc _) ⟨w.heap.size + 1, 0, none⟩ 1 1 [.int .i64 kd, .int .i64 k.w, .int .i64 k.h, .int .i64 k.id, .slice sa n sc] rfl rfl (World.news_of_block (cs := #[.int .i64 kd, .int .i64 k.w, .int .i64 k.h, .int .i64 k.id, .slice sa n sc]) (t := 88) (fr := (0, 0)) (by have := heap_alloc_new (w.alloc (.cells #[.int .i64 kd, .int .i64 k.w, .int .i64 k.h, .int .i64 k.id, .slice sa n sc] 88)) (.cells #[.int .i64 kd, .int .i64 k.w, .int .i64 k.h, .int .i64 k.id, .slice sa n sc] 88); rw [World.size_alloc] at this; exact this)) (by simp [Value.oneCell']) (by omega) (by unfold maxLen; omega) (by omega) (by simp; omega) (w.heap.size + 2) (by simp) ?_); intro g3 cap3 w3 hown3 hgrow3 hat3 hlt3; have Hown3 := Lib.hid hown3; have Hgrow3 := Lib.hid hgrow3; have Hat3 := Lib.hid hat3; clear hown3 hgrow3 hat3)
    go_ret
    refine join_out (ss := ss) (ss' := [.slice sa n sc]) HM.out rfl (((Upd.refl _ w).alloc _).alloc _) H1.out rfl H3.out ?_ hS.out ?_ Hgrow3.out (by simpa using Hat3.out)
    · intro i r s hr hs
      cases i with
      | zero =>
        simp only [List.getElem?_cons_zero, Option.some.injEq] at hr hs
        subst hr hs
        exact hk.out
      | succ i => simp at hr
    · have := Hown3.out
      rw [← HKD.out] at this
      simpa [rowVals, nvals] using this

end Go.Proofs.Ytpehceccnjdfeaa
