/-
  The program's grid: the points, collected.
-/
import Derived.Test.YtcgoicijbmhmpaaE6
import Derived.RangeFuncBox
import Derived.OwnWalkIn
namespace Go.Proofs.Ytcgoicijbmhmpaa
open Go.RowKit Go.Fl Go.Deep Go.Shelf
attribute [local go_sem] Oper.semAt_some
attribute [local irreducible] avs pt sgs

def ptV (s x : Nat) : Value := .float .f64 (pt s x)

set_option maxRecDepth 100000 in
set_option maxHeartbeats 2000000 in
theorem append_in (s Bs : Nat) (w : World) (h1 : 1 ≤ s) (h2 : s ≤ 1000) (hBs : w.cell? ⟨Bs, 0, none⟩ = some (.int .i64 (s : Nat))) :
    CallsIn Fence.wide 6 Try.prog 90 #[.slice none 0 0, .func (.func 89) #[] #[.pointer (some ⟨Bs, 0, none⟩)]] w fun e w' => (∃ G c, e = .returned (.slice G (s + 1) c) ∧ RowF w' G (s + 1) (pt s)) ∧ Below w.heap.size w w' := by
  obtain ⟨i0, hi, hz0, hz1, hz2⟩ := info_parts Try.info22
  have hBlt := (cell_lt hBs).2
  refine callsIn_of_wp_marks Try.func90 rfl trivial ?_ rfl
  simp only [Try.ntmps90, List.size_toArray, List.length_cons, List.length_nil, Nat.reduceAdd, Nat.reduceSub, Array.replicate_succ, Array.replicate_zero, List.push_toArray, List.append_toArray, List.nil_append, List.cons_append]
  gi_wp2
  refine wpIn_rangeFunc_ownF rfl (by omega) (gf := 89) (lb := #[.pointer (some ⟨Bs, 0, none⟩)]) rfl trivial (enters_of Try.func89 (by kernel_rfl) rfl)
    (encs := fun x : Nat => #[.float .f64 (pt s x)]) (Kp := BoxKeep Bs) (S := fun ys => ys = List.range (s + 1)) (Sp := fun pre => ∃ k, k ≤ s + 1 ∧ pre = List.range k) (N := s + 1)
    (w0 := w.alloc (.cells #[.slice none 0 0] 24))
    ?seq boxKeep_t (boxKeep_b (by simp; omega)) (Below.refl _ _) (fun _ => rfl)
    (fun pre W => (∃ v, Boxed W w.heap.size 24 v ∧ W.ownsRow w.heap.size 22 1 v pre.length (pre.map (ptV s)) ∧ True) ∧ Below w.heap.size w W)
    (fun _ _ _ => False) ?own ?ownx ?start ?fr ?assign ?body ?done ?stop
  case seq =>
    intro l J Jx W hW hJ _ hY hJ0
    exact (points_in Fence.wide (6 - 1) trivial rfl (by omega) l Bs s h1 h2 J Jx hY W ((hW.cell (p := ⟨Bs, 0, none⟩) (by simp; omega)).trans ((World.cell?_alloc_lt _ _ _ hBlt).trans hBs)) hJ0).mono fun e W' h => h
  case own => exact OwnFrom.and (Own.from (holdsRow_own w.heap.size w.heap.size 24 22 1 List.length (fun pre => pre.map (ptV s)) (fun _ _ => True)) _) (ownFrom_below (Nat.le_refl _) (by simp))
  case ownx => exact fun _ _ _ _ _ hs _ _ => hs
  case start => exact ⟨⟨_, Boxed.new w 24 _, World.ownsRow_nil _ _ _ _, trivial⟩, (Below.refl _ w).alloc (Nat.le_refl _) _⟩
  case assign =>
    intro l x W K hK
    gi_wp2
    exact hK
  case body =>
    rintro l pre x W ⟨⟨v, hv, hrow, _⟩, hB⟩ hlt
    have c1 := hv.cell
    have c2 := hv.frozen
    have hn0 := hB.size
    have hbk : ∀ {W3 : World}, Below w.heap.size W W3 → BoxKeep Bs W W3 := fun hb => hb.cell (p := ⟨Bs, 0, none⟩) hBlt
    gi_wp2_with (gi_at_builtin; refine wpListIn_append_own _ rfl (.tmp 8) (.tmp 10) 24 rfl w.heap.size 22 i0 (.float .f64 0) 1 8 Try.underlying24 hi hz0 hz1 hz2 rfl (by decide) _ _ _ rfl (hrow.alloc _) ⟨W.heap.size, 0, none⟩ 1 1 [.float .f64 (pt s x)] rfl rfl (cell_one_new _ _ _) (by simp [Value.oneCell']) (by unfold maxLen; omega) (by omega) (by simp; omega) ?_; intro v' w3 hown' hg3 _; have hap := Lib.hid (hv.appended (by decide) hrow hn0 (Nat.le_refl _) hown' hg3); have c3 := hap.out.1.cell; have c4 := hap.out.1.frozen; obtain ⟨g', cap', rfl⟩ := ownsRow_succ hown'; clear hown' hg3)
    refine ⟨hap.out.2.2.2.1, hbk hap.out.2.2.2.2, ⟨_, hap.out.2.1, ?_, trivial⟩, hB.trans hap.out.2.2.2.2⟩
    have := hap.out.2.2.1
    rw [List.length_append, List.length_singleton, List.map_append]
    exact this
  case done =>
    rintro D ys W hD rfl ⟨⟨v, hv, hrow, _⟩, hB⟩ hK
    have c1 := hv.cell
    have hrow2 : W.ownsRow w.heap.size 22 1 v (s + 1) (cellsOf (pt s) (s + 1)) := by
      have := hrow
      rw [List.length_range] at this
      exact this
    have hrow3 := ownsRow_putObj hrow2 (.deferred none) hK rfl
    obtain ⟨G, c, rfl, hR⟩ := own_rowF hrow3
    have hDw : w.heap.size < D := by simp at hD; omega
    have HR := Lib.hid hR
    clear hrow hrow2 hrow3 hR
    gi_wp2
    refine ⟨by simp, .inl ⟨_, _, rfl, run_takeDeferred hK, ?_⟩⟩
    exact ⟨_, results_tmp rfl _ _ _, ⟨G, c, rfl, HR.out⟩, hB.trans (belowK_b (w := w) (Nat.le_refl _) W D _ (.deferred none) (by omega) hK rfl rfl)⟩
  case stop =>
    rintro D c pre W _ _ h _
    exact h.elim
end Go.Proofs.Ytcgoicijbmhmpaa
