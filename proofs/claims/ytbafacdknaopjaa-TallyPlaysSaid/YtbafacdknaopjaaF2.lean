/-
  The weights of a tally, collected.
-/
import Derived.Test.YtbafacdknaopjaaF1
namespace Go.Proofs.Ytbafacdknaopjaa
open Go.RowKit Go.Shelf
attribute [local go_sem] Oper.semAt_some
set_option linter.unusedSimpArgs false

theorem run_eql_seq_nil (f : Fn) (b : Array Value) (w : World) : (binOp .eql 141 (.func f #[] b) .nilFunc).run Try.prog w = .ok (.bool false) w := by
  have h : ∀ d : Nat, (Op.equalIn (d + 1) 141 (.func f #[] b) .nilFunc).run Try.prog w = .ok false w := fun d => by
    simp [Op.equalIn, run_underlying Try.underlying141]
  simp only [binOp]
  simp [Op.equal, Op.maxDepth, h 9999]
attribute [local go_sem] run_eql_seq_nil
theorem infoPair : (Try.prog.info? 48).map (fun i => (i.zero, i.size, i.bytes)) = some (some (.agg #[.int .i64 0, .int .i64 0]), 2, 16) := by kernel_rfl
def cellsIt : Items → List Value
  | [] => []
  | p :: l => .int .i64 p.1 :: .int .i64 p.2 :: cellsIt l
theorem cellsIt_append (a b : Items) : cellsIt (a ++ b) = cellsIt a ++ cellsIt b := by
  induction a with
  | nil => rfl
  | cons p a ih => simp only [List.cons_append, cellsIt, ih]
theorem keepT_b {w : World} (W : World) (l : Nat) (o o' : Obj) (_ : w.heap.size ≤ l) (h : W.heap[l]? = some o) (hc : o.isCells = false) (_ : o.isWalk = false) : KeepT W (W.putObj l o') := by
  intro k cs t _ hk
  have hne : k ≠ l := by
    rintro rfl
    rw [h] at hk
    cases hk
    simp [Obj.isCells] at hc
  rw [World.putObj_heap_other hne]
  exact hk

theorem cell_two_new (w : World) (x y : Value) (t : TypeId) : ∀ j u, [x, y][j]? = some u → (w.alloc (.cells #[x, y] t)).cell? ((⟨w.heap.size, 0, none⟩ : Addr).add j) = some u := by
  intro j u h
  have hh := heap_alloc_new w (.cells #[x, y] t)
  have e : ((⟨w.heap.size, 0, none⟩ : Addr).add j) = ⟨w.heap.size, j, none⟩ := by unfold Addr.add; split <;> simp_all
  rw [e]
  exact cell_of_heap hh (by simpa using h)
theorem row_slice {W : World} {base e size n : Nat} {v : Value} {xs : List Value} (h : W.ownsRow base e size v n xs) : ∃ A c, v = .slice A n c := by
  rcases h.2 with ⟨rfl, rfl⟩ | ⟨g, cap, cur, rfl, _⟩
  · exact ⟨_, _, rfl⟩
  · exact ⟨_, _, rfl⟩
theorem kept_appended {W w3 : World} {n0 B e size n k : Nat} {v v' : Value} {xs : List Value} {tmp : Obj} {cs : Array Value} {T : TypeId} {f : Nat × Nat} (hrow : W.ownsRow n0 e size v n xs) (hg : (W.alloc tmp).grownBy w3 v.ownBlock) (hk : W.heap[k]? = some (.cells cs T f)) (hT : T ≠ e) (hB : k ≠ B) :
    (w3.setCell ⟨B, 0, none⟩ v').heap[k]? = some (.cells cs T f) := by
  rw [heap_setCell_other _ _ _ _ (by exact hB)]
  have h1 : k < W.heap.size := heap_lt hk
  rw [hg.block k (by rw [World.size_alloc]; omega) ?_, heap_alloc_old _ _ h1, hk]
  rintro h
  rcases hrow.2 with ⟨rfl, _⟩ | ⟨g, cap, cur, rfl, _, hgb, _⟩
  · simp [Value.ownBlock] at h
  · obtain rfl : k = g := by simpa [Value.ownBlock] using h
    rw [hgb] at hk
    cases hk
    exact hT rfl
theorem keepT_appended {W w3 : World} {n0 B e size n : Nat} {v v' : Value} {xs : List Value} {tmp : Obj} {t : TypeId} (hv : Boxed W B t v) (hrow : W.ownsRow n0 e size v n xs) (hg : (W.alloc tmp).grownBy w3 v.ownBlock)
    (ht : t ≠ 194 ∧ t ≠ 204) (he : e ≠ 194 ∧ e ≠ 204) : KeepT W (w3.setCell ⟨B, 0, none⟩ v') := by
  intro k cs T hT hk
  refine kept_appended hrow hg hk (fun e' => ?_) (fun e' => ?_)
  · subst e'; rcases hT with h | h
    · exact he.1 h
    · exact he.2 h
  · subst e'
    rw [show W.heap[k]? = _ from hv] at hk
    cases hk
    rcases hT with h | h
    · exact ht.1 h
    · exact ht.2 h
/-- What the collecting loop keeps, beside its slice. -/
def Gets (w : World) (m : Nat) (pre : Items) (W : World) : Prop :=
  ((∃ v, Boxed W (w.heap.size + 1) 45 v ∧ W.ownsRow w.heap.size 48 2 v pre.length (cellsIt pre) ∧ True) ∧ Boxed W w.heap.size 3 (.int .i64 m) ∧ pre.length ≤ m) ∧ Below w.heap.size w W
def Left (w : World) (m : Nat) (c : Code) (pre : Items) (W : World) : Prop :=
  (∃ q v, (c = .exit 0 ∧ q <+: pre ∧ q.length = m) ∧ Boxed W (w.heap.size + 1) 45 v ∧ W.ownsRow w.heap.size 48 2 v q.length (cellsIt q)) ∧ Below w.heap.size w W
theorem gets_own (w w1 : World) (m : Nat) (h : w.heap.size ≤ w1.heap.size) : OwnFrom w1.heap.size (Gets w m) := by
  refine OwnFrom.and (Own.from (fun s X Y row hs hg hr => ?_) _) (ownFrom_below (Nat.le_refl _) h)
  obtain ⟨h1, h2, h3⟩ := hs
  refine ⟨holdsRow_own w.heap.size (w.heap.size + 1) 45 48 2 List.length cellsIt (fun _ _ => True) s X Y row h1 hg hr, h2.kept hg (fun e' => ?_), h3⟩
  obtain ⟨o, ho, hc⟩ := hr _ e'.symm
  rw [show X.heap[w.heap.size]? = _ from h2] at ho; cases ho; cases hc
theorem left_own (w w1 : World) (m : Nat) (c : Code) (h : w.heap.size ≤ w1.heap.size) : OwnFrom w1.heap.size (Left w m c) := by
  refine OwnFrom.and (Own.from (fun s X Y row hs hg hr => ?_) _) (ownFrom_below (Nat.le_refl _) h)
  obtain ⟨q, v, h0, h1, h2⟩ := hs
  obtain ⟨v', k1, k2, _⟩ := holdsRow_own w.heap.size (w.heap.size + 1) 45 48 2 List.length cellsIt (fun _ _ => True) q X Y row ⟨v, h1, h2, trivial⟩ hg hr
  exact ⟨q, v', h0, k1, k2⟩

set_option maxRecDepth 100000 in
theorem Weights_any (a : Option Addr) (w : World) : Calls Try.prog 88 #[.pointer a] w fun e w' => e = .returned (.func (.func 141) #[] #[.pointer (some ⟨w.heap.size, 0, none⟩)]) ∧ w.alloc (.cells #[.pointer a] 24) = w' := by
  go_enter Try.func88, Try.ntmps88
  go_wp2
  go_ret
  exact ⟨rfl, rfl⟩

/-- What the iterator over the weights of a tally goes over, from here on. -/
def Over (w : World) (a : Option Addr) (L : Items) : Prop := ∀ (n Tb : Nat) (W : World), 3 ≤ n → Only [] w W → W.cell? ⟨Tb, 0, none⟩ = some (.pointer a) → Iter n 141 #[.pointer (some ⟨Tb, 0, none⟩)] L W
theorem WeighOf.over {w : World} {A : Nat} {B : Option Addr} {t : T} (h : WeighOf w ⟨A, 0, none⟩ B t) : Over w (some ⟨A, 0, none⟩) t.items := fun n Tb W hn hO hc => weights1_iter n Tb A hn B t W (h.only hO) hc

set_option maxRecDepth 100000 in
set_option maxHeartbeats 2000000 in
theorem pairs_in (a : Option Addr) (m : Nat) (L : Items) (w : World) (hB : Over w a L) (hlen : L.length ≤ 2147483647) :
    CallsIn Fence.wide 6 Try.prog 37 #[.pointer a, .int .i64 m] w fun e w' => (∃ v, e = .returned v ∧ w'.ownsRow w.heap.size 48 2 v (L.take m).length (cellsIt (L.take m))) ∧ Below w.heap.size w w' := by
  obtain ⟨i0, hi, hz0, hz1, hz2⟩ := info_parts infoPair
  obtain ⟨w1, hw1⟩ : ∃ w1, (((w.alloc (.cells #[.int .i64 m] 3)).alloc (.cells #[.slice none 0 0] 45)).alloc (.cells #[.pointer a] 24)) = w1 := ⟨_, rfl⟩
  have hsz : w1.heap.size = w.heap.size + 3 := by rw [← hw1]; simp [World.size_alloc]
  have hO1 : Only [] w w1 := hw1 ▸ (((Only.refl [] w).alloc _).alloc _).alloc _
  have hb1 : Below w.heap.size w w1 := ⟨hO1.os, hO1.tape, hO1.output, hO1.size, fun k hk => hO1.block k hk (by simp)⟩
  have k1 : w1.heap[w.heap.size]? = some (.cells #[.int .i64 m] 3 (0, 0)) := by
    rw [← hw1, heap_alloc_old _ _ (by simp only [World.size_alloc]; omega), heap_alloc_old _ _ (by simp only [World.size_alloc]; omega)]; exact heap_alloc_new _ _
  have k2 : w1.heap[w.heap.size + 1]? = some (.cells #[.slice none 0 0] 45 (0, 0)) := by
    rw [← hw1, heap_alloc_old _ _ (by simp only [World.size_alloc]; omega)]
    have := heap_alloc_new (w.alloc (.cells #[.int .i64 m] 3)) (.cells #[.slice none 0 0] 45)
    rwa [World.size_alloc] at this
  have k3 : w1.heap[w.heap.size + 2]? = some (.cells #[.pointer a] 24 (0, 0)) := by
    rw [← hw1]
    have := heap_alloc_new ((w.alloc (.cells #[.int .i64 m] 3)).alloc (.cells #[.slice none 0 0] 45)) (.cells #[.pointer a] 24)
    simpa [World.size_alloc] using this
  have HW := Lib.hid hw1
  have HB := Lib.hid (hB (6 - 1) (w.heap.size + 2) w1 (by omega) hO1 (cell_of_heap k3 rfl))
  have HK := Lib.hid (And.intro k1 k2)
  clear hB k1 k2 k3 hw1
  refine callsIn_of_wp_marks Try.func37 rfl trivial ?_ rfl
  simp only [Try.ntmps37, List.size_toArray, List.length_cons, List.length_nil, Nat.reduceAdd, Nat.reduceSub, Array.replicate_succ, Array.replicate_zero, List.push_toArray, List.append_toArray, List.nil_append, List.cons_append]
  gi_wp2_with fail
  refine ⟨trivial, (callsIn_wide.2 (Weights_any _ _)).mono ?_⟩
  rintro e w' ⟨rfl, rfl⟩
  gi_wp2
  rw [HW.out]
  refine range_iter (by omega) (gf := 141) (lb := #[.pointer (some ⟨w.heap.size + 1 + 1, 0, none⟩)]) (L := L) rfl (enters_of Try.func141 (by kernel_rfl) rfl) HB.out rfl
    (Gets w m) (Left w m) (gets_own w w1 m hO1.size) (fun c => left_own w w1 m c hO1.size) ?start ?fr ?assign ?body ?done ?stop
  case start => exact ⟨⟨⟨_, HK.out.2, World.ownsRow_nil _ _ _ _, trivial⟩, HK.out.1, Nat.zero_le _⟩, hb1⟩
  case assign =>
    intro l x W K hK
    gi_wp2
    exact hK
  case body =>
    rintro l pre x W ⟨⟨⟨v, hv, hrow, _⟩, hm, hle⟩, hBel⟩ hlt
    obtain ⟨A, c, rfl⟩ := row_slice hrow
    have c1 := hv.cell
    have c2 := hv.frozen
    have c3 := hm.cell
    by_cases hfull : pre.length = m
    · have q : ((pre.length : Int) == (m : Int)) = true := by simp [hfull]
      have HL := Lib.hid (show Left w m (.exit 0) (pre ++ [x]) W from ⟨⟨pre, _, ⟨rfl, ⟨[x], rfl⟩, hfull⟩, hv, hrow⟩, hBel⟩)
      clear hv hm hrow
      gi_wp2
      exact ⟨KeepsOthers.refl _, HL.out⟩
    · have q : ((pre.length : Int) == (m : Int)) = false := by simp; omega
      have hn0 := hBel.size
      gi_wp2_with (gi_at_builtin; refine wpListIn_append_own _ rfl (.tmp 22) (.tmp 26) 45 rfl w.heap.size 48 i0 (.agg #[.int .i64 0, .int .i64 0]) 2 16 Try.underlying45 hi hz0 hz1 hz2 rfl (by decide) _ _ _ rfl (hrow.alloc _) ⟨W.heap.size, 0, none⟩ 1 1 [.int .i64 x.1, .int .i64 x.2] rfl rfl (cell_two_new _ _ _ _) (by simp [Value.oneCell']) (by unfold maxLen; omega) (by omega) (by simp; omega) ?_; intro v' w3 hown' hg3 _; have hap := Lib.hid (hv.appended (by decide) hrow hn0 (by omega) hown' hg3); have hkt := Lib.hid (keepT_appended hv hrow hg3 (v' := v') ⟨by decide, by decide⟩ ⟨by decide, by decide⟩); have hkm := Lib.hid (kept_appended (B := w.heap.size + 1) (v' := v') hrow hg3 hm (by decide) (by omega)); have c3 := hap.out.1.cell; have c4 := hap.out.1.frozen; obtain ⟨g', cap', rfl⟩ := ownsRow_succ hown'; clear hown' hg3)
      refine ⟨hap.out.2.2.2.1, hkt.out, ⟨⟨_, hap.out.2.1, ?_, trivial⟩, hkm.out, by rw [List.length_append]; simp; omega⟩, hBel.trans hap.out.2.2.2.2⟩
      rw [List.length_append, List.length_singleton, cellsIt_append]
      exact hap.out.2.2.1
  case done =>
    rintro D W hD ⟨⟨⟨v, hv, hrow, _⟩, hm, hle⟩, hBel⟩ hK
    have c1 := hv.cell
    have hrow3 := ownsRow_putObj hrow (.deferred none) hK rfl
    have HR := Lib.hid hrow3
    have hDw : w.heap.size < D := by omega
    have HB2 := Lib.hid hBel
    have hle2 := Lib.hid hle
    obtain ⟨A, c, rfl⟩ := row_slice hrow
    clear hv hrow hrow3 hm hBel hle
    gi_wp2
    refine ⟨by simp, .inl ⟨_, _, rfl, run_takeDeferred hK, ?_⟩⟩
    refine ⟨_, results_tmp rfl _ _ _, ⟨_, rfl, ?_⟩, HB2.out.trans (belowK_b (w := w) (Nat.le_refl _) W D _ (.deferred none) (by omega) hK rfl rfl)⟩
    rw [List.take_of_length_le hle2.out]
    exact HR.out
  case stop =>
    rintro D c pre W hD hpre ⟨⟨q, v, ⟨rfl, hq, hqm⟩, hv, hrow⟩, hBel⟩ hK
    have c1 := hv.cell
    have hrow3 := ownsRow_putObj hrow (.deferred none) hK rfl
    have HR := Lib.hid hrow3
    have hDw : w.heap.size < D := by omega
    have HB2 := Lib.hid hBel
    have hT := Lib.hid (show L.take m = q by rw [← hqm]; exact (List.prefix_iff_eq_take.1 (hq.trans hpre)).symm)
    obtain ⟨A, c, rfl⟩ := row_slice hrow
    clear hv hrow hrow3 hBel hpre hq hqm
    gi_wp2
    refine ⟨by simp, .inl ⟨_, _, rfl, run_takeDeferred hK, ?_⟩⟩
    refine ⟨_, results_tmp rfl _ _ _, ⟨_, rfl, ?_⟩, HB2.out.trans (belowK_b (w := w) (Nat.le_refl _) W D _ (.deferred none) (by omega) hK rfl rfl)⟩
    rw [hT.out]
    exact HR.out
end Go.Proofs.Ytbafacdknaopjaa
