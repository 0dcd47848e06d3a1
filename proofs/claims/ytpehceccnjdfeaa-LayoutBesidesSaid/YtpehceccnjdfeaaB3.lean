/- lay of every tree; write. -/
import Derived.Test.YtpehceccnjdfeaaB2
namespace Go.Proofs.Ytpehceccnjdfeaa
open Go.RowKit

theorem lay_any (n : Nat) : LaySaid n := by
  induction n with
  | zero =>
    intro a r d x y ob B v0 l0 w hd
    cases r
    simp [R.depth] at hd
  | succ n ih =>
    intro a r d x y ob B v0 l0 w hdep hr hn hob hown hB hl hd0 hd hx0 hx hy0 hy hbd
    cases a with
    | leaf b =>
      cases r with
      | mk k W H id kids =>
        have hr2 := hr
        simp only [Rep] at hr2
        obtain ⟨rfl, rfl, _⟩ := hr2
        exact lay_leaf b ob B v0 l0 W H id d x y w hr hob hown hB (by omega)
    | split b a off cap ks =>
      cases r with
      | mk k W H id kids =>
        have hr2 := hr
        simp only [Rep] at hr2
        obtain ⟨rfl, _⟩ := hr2
        simp only [R.depth] at hdep
        simp only [R.cnt] at hl hd hx hy
        exact lay_split n ih b a off cap ks.length ks ob B v0 l0 k W H d x y kids w (Nat.le_of_succ_le_succ hdep) rfl hr hn hob hown hB hl hd0 (by omega) hx0 (by omega) hy0 (by omega) hbd.2.2.2.2

/-- What write leaves. -/
def WritePost (w : World) (a : A) (r : R) (e : Ending) (w' : World) : Prop :=
  ∃ v, e = .returned v ∧ Owned w' w.heap.size v (r.lay 0 0 0) ∧ Rep w' a r ∧ Pos w' a r 0 0 ∧ Upd (fun k => k ∈ a.blks) w w'

set_option maxRecDepth 100000 in
theorem write_any (a : A) (r : R) (w : World) (hr : Rep w a r) (hn : a.blks.Nodup) (hc : r.cnt ≤ 200) (hbd : r.Bd 0 1000) :
    Calls Try.prog 77 #[a.val] w fun e w' => WritePost w a r e w' := by
  have HR := Lib.hid hr; clear hr
  have HN := Lib.hid hn; clear hn
  have HB := Lib.hid hbd; clear hbd
  generalize hv : a.val = v
  have HV := Lib.hid hv; clear hv
  have hlay : Hid (Calls Try.prog 123 #[v, .int .i64 0, .int .i64 0, .int .i64 0, .pointer (some ⟨w.heap.size, 0, none⟩)] (w.alloc (.cells #[.slice none 0 0] 22)) fun e w' => e = .returned (.tuple #[]) ∧ LayPost (w.alloc (.cells #[.slice none 0 0] 22)) a r 0 0 w.heap.size w.heap.size (.slice none 0 0) ([] ++ r.lay 0 0 0) w') := by
    rw [← HV.out]
    exact lay_any r.depth a r 0 0 0 w.heap.size w.heap.size (.slice none 0 0) [] _ (Nat.le_refl _) (HR.out.upd ((Upd.refl (fun _ => False) w).alloc _) (by simp)) HN.out (heap_alloc_new w _) (Owned.nil _ _) (by simp) (by simp; omega) (by omega) (by omega) (by omega) (by omega) (by omega) (by omega) HB.out
  go_enter Try.func77, Try.ntmps77
  go_wp2_with fail
  refine hlay.out.mono ?_
  rintro e w2 ⟨rfl, v', h1, h2, h3, h4, h5, _⟩
  have c0 : w2.cell? ⟨w.heap.size, 0, none⟩ = some v' := blk_cell h1 0
  have h6 : Upd (fun k => k ∈ a.blks) w w2 := ((Upd.refl (fun k => k ∈ a.blks) w).alloc _).then_ h5 (by
    rintro k hk (e | e | e)
    · omega
    · simp [Value.ownBlock] at e
    · exact e)
  have H1 := Lib.hid h1; have H2 := Lib.hid h2; have H3 := Lib.hid h3; have H4 := Lib.hid h4; have H5 := Lib.hid h5; have H6 := Lib.hid h6
  clear h1 h2 h3 h4 h5 h6
  go_wp2_with fail
  go_ret
  exact ⟨v', rfl, by simpa using H2.out, H3.out, H4.out, H6.out⟩

end Go.Proofs.Ytpehceccnjdfeaa
