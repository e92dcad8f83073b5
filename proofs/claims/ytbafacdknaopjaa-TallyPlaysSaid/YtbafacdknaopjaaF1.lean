/-
  The iterator over the weights of a tally.
-/
import Derived.Test.YtbafacdknaopjaaR1
import Derived.Test.YtbafacdknaopjaaD16
namespace Go.Proofs.Ytbafacdknaopjaa
open Go.RowKit Go.Shelf
attribute [local go_sem] Oper.semAt_some
set_option linter.unusedSimpArgs false

/-- What the parts of a tally give its iterator, from here on. -/
structure WeighOf (W : World) (a : Addr) (B : Option Addr) (t : T) : Prop where
  here : W.cell? ⟨a.block, 3, none⟩ = some (.pointer B)
  tree : TreeOf W B t
  valid : ∀ W1, Only [] W W1 → Calls Try.prog 72 #[.pointer (some a)] W1 fun e w' => e = .returned (.bool true) ∧ W1 = w'
theorem WeighOf.only {W W1 : World} {a : Addr} {B : Option Addr} {t : T} (h : WeighOf W a B t) (ho : Only [] W W1) : WeighOf W1 a B t :=
  ⟨cells_keep ho h.here (by simp), h.tree.only ho, fun W2 h2 => h.valid W2 (ho.trans h2)⟩
theorem Tal.weigh {W : World} {A G S B : Nat} {Fd : List Nat} {t : T} {f : Nat → Nat} {cg n : Nat} {lab wt : Nat → Nat} (h : Tal W A G S B Fd t f cg n lab wt) : WeighOf W ⟨A, 0, none⟩ (some ⟨B, 0, none⟩) t :=
  ⟨h.c.2.2, h.bag.treeOf, fun _ ho => tvalid_any (h.same fun k hk => ho.block k (h.lt k hk) (by simp))⟩

set_option maxRecDepth 100000 in
set_option maxHeartbeats 4000000 in
theorem weights1_iter (n Tb A : Nat) (hn : 3 ≤ n) (B : Option Addr) (t : T) (w : World) (hT : WeighOf w ⟨A, 0, none⟩ B t) (hTb : w.cell? ⟨Tb, 0, none⟩ = some (.pointer (some ⟨A, 0, none⟩))) :
    Iter n 141 #[.pointer (some ⟨Tb, 0, none⟩)] t.items w := by
  intro l J Jx W hO hl hJ hJx hY h0
  have c1 : W.cell? ⟨Tb, 0, none⟩ = some (.pointer (some ⟨A, 0, none⟩)) := cells_keep hO hTb (by simp)
  have hT0 := hT.only hO
  obtain ⟨W0, hW0⟩ : ∃ W0, W.alloc (.cells #[.func (.yield l) #[] #[]] 204) = W0 := ⟨_, rfl⟩
  have hO0 : Only [] W W0 := hW0 ▸ (Only.refl [] W).alloc _
  have hT1 := hT0.only hO0
  have c2 := cells_keep hO0 c1 (by simp)
  have c3 := hT1.here
  replace c3 : W0.cell? ⟨A, 3, none⟩ = some (.pointer B) := c3
  have hYb : Boxed W0 W.heap.size 204 (.func (.yield l) #[] #[]) := hW0 ▸ heap_alloc_new W _
  have CV := Lib.hid (hT1.valid W0 (Only.refl _ _))
  have HW := Lib.hid hW0
  have HT := Lib.hid hT1
  have HO0 := Lib.hid hO0
  have hJ0 := Lib.hid (show J [] W0 by rw [← hW0]; exact hJ.alloc _ h0)
  have hsz : W0.heap.size = W.heap.size + 1 := by rw [← hW0, World.size_alloc]
  have hb1 := cell_lt c1
  clear hT hTb hO hT0 hO0 hW0 hT1 h0
  refine callsIn_of_wp_marks Try.func141 rfl trivial ?_ rfl
  simp only [Try.ntmps141, List.size_toArray, List.length_cons, List.length_nil, Nat.reduceAdd, Nat.reduceSub, Array.replicate_succ, Array.replicate_zero, List.push_toArray, List.append_toArray, List.nil_append, List.cons_append]
  have hdp : ∀ m : Nat, (Fence.wide.depth.isSome = true → 1 ≤ m) := fun m h => by cases h
  gi_wp2_with fail
  rw [HW.out]
  clear c1
  refine ⟨trivial, hdp _, callsIn_wide.2 (CV.out.mono ?_)⟩
  rintro e w' ⟨rfl, rfl⟩
  gi_wp2_with fail
  refine ⟨trivial, hdp _, callsIn_wide.2 ((All_any _ _).mono ?_)⟩
  rintro e w' ⟨rfl, rfl⟩
  gi_wp2_with fail
  obtain ⟨W2, hW2⟩ : ∃ W2, W0.alloc (.cells #[.pointer B] 63) = W2 := ⟨_, rfl⟩
  have hO2 : Only [] W0 W2 := hW2 ▸ (Only.refl [] W0).alloc _
  have hs2 : W2.heap.size = W0.heap.size + 1 := by rw [← hW2, World.size_alloc]
  have hbx : Boxed W2 (W.heap.size + 1) 63 (.pointer B) := by rw [← hsz, ← hW2]; exact heap_alloc_new W0 _
  have hyx : Boxed W2 W.heap.size 204 (.func (.yield l) #[] #[]) := hW2 ▸ hYb.alloc _
  have hJ2 : J [] W2 := by rw [← hW2]; exact hJ.alloc _ hJ0.out
  have HT2 := Lib.hid (HT.out.tree.only hO2)
  rw [hW2]
  have lift : ∀ {β : Type} {K : β → World → Prop}, OwnFrom W.heap.size K → OwnFrom W2.heap.size K := fun hK s A C row hs hg' hr => hK s A C row hs hg' fun r e => ⟨by have := (hr r e).1; omega, (hr r e).2⟩
  refine wpIn_rangeFunc_ownG rfl (by omega) (gf := 167) (lb := #[.pointer (some ⟨W.heap.size + 1, 0, none⟩)]) rfl trivial (enters_of Try.func167 (by kernel_rfl) rfl)
    (encs := fun x : Int × Nat => #[.int .i64 x.1, .int .i64 x.2]) (Kp := KeepT) (S := fun ys => ys = t.items) (Sp := fun pre => pre <+: t.items) (N := t.items.length)
    (w0 := W2) ?seq KeepT.trans (fun W l o o' _ h hc _ => keepT_put o' h hc) (Below.refl _ _) (fun _ => rfl)
    (fun pre W3 => J pre W3 ∧ Boxed W3 W.heap.size 204 (.func (.yield l) #[] #[])) (fun c pre W3 => c = .ret ∧ Jx pre W3) ?own1 ?own2 ⟨hJ2, hyx⟩ ?fr ?assign ?body ?done ?stop
  case seq =>
    intro l2 J2 Jx2 W3 hW3 hJa _ hY2 hJ0'
    have hOW : Only [] W2 W3 := ⟨hW3.os, hW3.tape, hW3.output, hW3.size, fun k hk _ => hW3.block k hk⟩
    exact all1_in (n - 1) l2 (W.heap.size + 1) B t J2 Jx2 W3 (HT2.out.only hOW) (cell_of_heap ((hW3.block _ (by omega)).trans hbx) rfl) hJa (fun pre x post W1 hL hj => hY2 pre x W1 hj (by rw [hL]; simp)) hJ0'
  case own1 =>
    intro s X Y row hs hg hr
    exact ⟨lift hJ s X Y row hs.1 hg hr, (grownBy_keeps_cells hg (fun r e => (hr r e).2) hs.2 rfl).trans hs.2⟩
  case own2 => exact fun c s X Y row hs hg hr => ⟨hs.1, lift hJx s X Y row hs.2 hg hr⟩
  case assign =>
    intro l2 x W3 K hK
    gi_wp2
    exact hK
  case body =>
    rintro l2 pre x W3 ⟨hj, hbox⟩ hlt
    have c5 := hbox.cell
    obtain ⟨fn, tmps, assign, body, hyr, hR⟩ := hY pre x W3 hj hlt
    have HR := Lib.hid hR
    have HB := Lib.hid hbox
    clear hR hbox hj
    gi_wp2
    refine ⟨hdp _, (show RoundIn Fence.wide (n - 1 - 1 - 1) Try.prog l fn tmps assign body W3 _ from RoundIn.anyDepth' HR.out).mono ?_⟩
    rintro e W' (⟨rfl, hj', hk⟩ | ⟨rfl, hx, hk⟩)
    · have HJ := Lib.hid (And.intro hj' hk)
      clear hj' hk
      gi_wp2
      obtain ⟨hj', hk⟩ := HJ.out
      exact ⟨⟨hk.2.1, fun k o hle ho hc => hk.2.2 k o (by omega) ho hc⟩, hk.1, hj', hk.1 _ _ _ (.inr rfl) HB.out⟩
    · have HX := Lib.hid (And.intro hx hk)
      clear hx hk
      gi_wp2
      obtain ⟨hx, hk⟩ := HX.out
      exact ⟨⟨hk.1, fun k o hle ho hc => hk.2 k o (by omega) ho hc⟩, rfl, hx⟩
  case done =>
    rintro D ys W3 hD rfl ⟨hj, _⟩ hK
    have HJ := Lib.hid (hJ.putObj (.deferred none) hj (by omega) hK rfl)
    gi_wp2
    refine ⟨by simp, .inl ⟨_, _, rfl, run_takeDeferred hK, ?_⟩⟩
    exact ⟨_, results_none rfl _ _ _, ⟨_, rfl⟩, .inl HJ.out⟩
  case stop =>
    rintro D c pre W3 hD hpre ⟨rfl, hjx⟩ hK
    have HJ := Lib.hid (hJx.putObj (.deferred none) hjx (by omega) hK rfl)
    gi_wp2
    refine ⟨by simp, .inl ⟨_, _, rfl, run_takeDeferred hK, ?_⟩⟩
    exact ⟨_, results_none rfl _ _ _, ⟨_, rfl⟩, .inr ⟨pre, hpre, HJ.out⟩⟩
end Go.Proofs.Ytbafacdknaopjaa
