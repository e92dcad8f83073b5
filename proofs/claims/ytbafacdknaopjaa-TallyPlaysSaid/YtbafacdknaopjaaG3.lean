import Derived.Test.YtbafacdknaopjaaG1
import Derived.Test.YtbafacdknaopjaaA13
import Derived.Deep.RegionLaw
import Derived.Deep.AppendLies
/-
  The document's tally of chapter 10: New.
-/
namespace Go.Proofs.Ytbafacdknaopjaa
open Go.RowKit
set_option linter.unusedSimpArgs false
set_option linter.unusedSectionVars false

def rowN (k : Nat) : List Value := (List.range k).map fun (i : Nat) => Value.int .i64 (i : Int)
theorem rowN_succ (k : Nat) : rowN (k + 1) = rowN k ++ [.int .i64 (k : Int)] := by simp [rowN, List.range_succ]
/-- A tally of the document under way. -/
structure RPart (w : World) (R : Nat) (k1 k2 : Nat) (xs1 xs2 : List Value) (v1 v2 : Value) (W : World) : Prop where
  head : W.heap[R]? = some (.cells #[.bool true, v1, v2] 138 (0, 0))
  r1 : W.ownsRow w.heap.size 2 1 v1 k1 xs1
  r2 : W.ownsRow w.heap.size 3 1 v2 k2 xs2
  e1 : k1 = 0 → v1 = .slice none 0 0
  e2 : k2 = 0 → v2 = .slice none 0 0
  bel : Below w.heap.size w W
  hR : w.heap.size ≤ R
theorem own_type {W : World} {base size n : Nat} {e : TypeId} {v : Value} {xs : List Value} (h : W.ownsRow base e size v n xs) {g : Nat} (hg : v.ownBlock = some g) : ∃ cs, W.heap[g]? = some (.cells cs e (0, 0)) ∧ base ≤ g := by
  obtain ⟨_, ⟨rfl, _⟩ | ⟨g', cap, cur, rfl, hgb, hh, _⟩⟩ := h
  · simp [Value.ownBlock] at hg
  · obtain rfl : g' = g := by simpa [Value.ownBlock] using hg
    exact ⟨cur, hh, hgb⟩
theorem own_below {W X : World} {base size n : Nat} {e : TypeId} {v : Value} {xs : List Value} (h : W.ownsRow base e size v n xs) (hb : Below W.heap.size W X) : X.ownsRow base e size v n xs := by
  obtain ⟨hl, hv | ⟨g, cap, cur, e, hg, hh, hr⟩⟩ := h
  · exact ⟨hl, .inl hv⟩
  · exact ⟨hl, .inr ⟨g, cap, cur, e, hg, (hb.block g (heap_lt hh)).trans hh, hr⟩⟩
section
variable {w : World} {R : Nat} {k1 k2 : Nat} {xs1 xs2 : List Value} {v1 v2 : Value} {W : World} (h : RPart w R k1 k2 xs1 xs2 v1 v2 W)
include h
theorem RPart.drewN (n : Nat) : RPart w R k1 k2 xs1 xs2 v1 v2 (W.drewN n) := ⟨h.head, h.r1, h.r2, h.e1, h.e2, ⟨h.bel.os, h.bel.tape, h.bel.output, h.bel.size, h.bel.block⟩, h.hR⟩
theorem RPart.next1 {W' X : World} {v' : Value} {m : Nat} {ys : List Value} (hX : X = W ∨ ∃ o, X = W.alloc o) (hm : 0 < m) (hr : W'.ownsRow w.heap.size 2 1 v' (k1 + m) (xs1 ++ ys)) (hg : X.grownBy W' v1.ownBlock) : RPart w R (k1 + m) k2 (xs1 ++ ys) xs2 v' v2 (W'.setCell ⟨R, 1, none⟩ v') := by
  have hXb : Below W.heap.size W X := by
    rcases hX with rfl | ⟨o, rfl⟩
    · exact Below.refl _ _
    · exact (Below.refl _ _).alloc (Nat.le_refl _) _
  have hXs := hXb.size
  have hR1 : some R ≠ v1.ownBlock := fun e => by
    obtain ⟨cs, hc, _⟩ := own_type h.r1 e.symm
    rw [h.head] at hc
    cases hc
  have h21 : v2.ownBlock = none ∨ v2.ownBlock ≠ v1.ownBlock := by
    cases e : v2.ownBlock with
    | none => exact .inl rfl
    | some g =>
      refine .inr fun e2 => ?_
      obtain ⟨cs, hc, _⟩ := own_type h.r2 e
      obtain ⟨cs', hc', _⟩ := own_type h.r1 (e2 ▸ rfl : v1.ownBlock = some g)
      rw [hc] at hc'
      cases hc'
  have hlt := heap_lt h.head
  have hh : W'.heap[R]? = some (.cells #[.bool true, v1, v2] 138 (0, 0)) := (hg.block R (by omega) hR1).trans ((hXb.block R hlt).trans h.head)
  have hne : v'.ownBlock ≠ some R := fun e => by
    obtain ⟨cs, hc, _⟩ := own_type hr e
    rw [hh] at hc
    cases hc
  have hr2 := (own_below h.r2 hXb).kept hg h21
  have hne2 : v2.ownBlock ≠ some R := fun e => by
    obtain ⟨cs, hc, _⟩ := own_type hr2 e
    rw [hh] at hc
    cases hc
  refine ⟨heap_setCell_same W' R 1 _ 138 _ hh, ownsRow_setCell_other hr hne _, ownsRow_setCell_other hr2 hne2 _, fun h0 => by omega, h.e2, ?_, h.hR⟩
  · refine ((h.bel.trans (hXb.mono h.bel.size)).grown hg (by have := h.bel.size; omega) fun j hj => ?_).setCell h.hR _
    obtain ⟨_, _, hb⟩ := own_type h.r1 hj
    exact hb
theorem RPart.next2 {W' X : World} {v' : Value} {m : Nat} {ys : List Value} (hX : X = W ∨ ∃ o, X = W.alloc o) (hm : 0 < m) (hr : W'.ownsRow w.heap.size 3 1 v' (k2 + m) (xs2 ++ ys)) (hg : X.grownBy W' v2.ownBlock) : RPart w R k1 (k2 + m) xs1 (xs2 ++ ys) v1 v' (W'.setCell ⟨R, 2, none⟩ v') := by
  have hXb : Below W.heap.size W X := by
    rcases hX with rfl | ⟨o, rfl⟩
    · exact Below.refl _ _
    · exact (Below.refl _ _).alloc (Nat.le_refl _) _
  have hXs := hXb.size
  have hR1 : some R ≠ v2.ownBlock := fun e => by
    obtain ⟨cs, hc, _⟩ := own_type h.r2 e.symm
    rw [h.head] at hc
    cases hc
  have h21 : v1.ownBlock = none ∨ v1.ownBlock ≠ v2.ownBlock := by
    cases e : v1.ownBlock with
    | none => exact .inl rfl
    | some g =>
      refine .inr fun e2 => ?_
      obtain ⟨cs, hc, _⟩ := own_type h.r1 e
      obtain ⟨cs', hc', _⟩ := own_type h.r2 (e2 ▸ rfl : v2.ownBlock = some g)
      rw [hc] at hc'
      cases hc'
  have hlt := heap_lt h.head
  have hh : W'.heap[R]? = some (.cells #[.bool true, v1, v2] 138 (0, 0)) := (hg.block R (by omega) hR1).trans ((hXb.block R hlt).trans h.head)
  have hne : v'.ownBlock ≠ some R := fun e => by
    obtain ⟨cs, hc, _⟩ := own_type hr e
    rw [hh] at hc
    cases hc
  have hr1 := (own_below h.r1 hXb).kept hg h21
  have hne2 : v1.ownBlock ≠ some R := fun e => by
    obtain ⟨cs, hc, _⟩ := own_type hr1 e
    rw [hh] at hc
    cases hc
  refine ⟨heap_setCell_same W' R 2 _ 138 _ hh, ownsRow_setCell_other hr1 hne2 _, ownsRow_setCell_other hr hne _, h.e1, fun h0 => by omega, ?_, h.hR⟩
  · refine ((h.bel.trans (hXb.mono h.bel.size)).grown hg (by have := h.bel.size; omega) fun j hj => ?_).setCell h.hR _
    obtain ⟨_, _, hb⟩ := own_type h.r2 hj
    exact hb
theorem RPart.kept1 {W' X : World} (hX : X = W ∨ ∃ o, X = W.alloc o) (hg : X.grownBy W' v1.ownBlock) : W'.cell? ⟨R, 1, none⟩ = some v1 ∧ W'.frozen? ⟨R, 1, none⟩ = false := by
  have hXb : Below W.heap.size W X := by
    rcases hX with rfl | ⟨o, rfl⟩
    · exact Below.refl _ _
    · exact (Below.refl _ _).alloc (Nat.le_refl _) _
  have hXs := hXb.size
  have hR1 : some R ≠ v1.ownBlock := fun e => by
    obtain ⟨cs, hc, _⟩ := own_type h.r1 e.symm
    rw [h.head] at hc
    cases hc
  have hlt := heap_lt h.head
  have hh := (hg.block R (by omega) hR1).trans ((hXb.block R hlt).trans h.head)
  exact ⟨cell_of_heap hh rfl, frozen_of_heap hh⟩
theorem RPart.kept2 {W' X : World} (hX : X = W ∨ ∃ o, X = W.alloc o) (hg : X.grownBy W' v2.ownBlock) : W'.cell? ⟨R, 2, none⟩ = some v2 ∧ W'.frozen? ⟨R, 2, none⟩ = false := by
  have hXb : Below W.heap.size W X := by
    rcases hX with rfl | ⟨o, rfl⟩
    · exact Below.refl _ _
    · exact (Below.refl _ _).alloc (Nat.le_refl _) _
  have hXs := hXb.size
  have hR1 : some R ≠ v2.ownBlock := fun e => by
    obtain ⟨cs, hc, _⟩ := own_type h.r2 e.symm
    rw [h.head] at hc
    cases hc
  have hlt := heap_lt h.head
  have hh := (hg.block R (by omega) hR1).trans ((hXb.block R hlt).trans h.head)
  exact ⟨cell_of_heap hh rfl, frozen_of_heap hh⟩
theorem RPart.cells : W.cell? ⟨R, 1, none⟩ = some v1 ∧ W.cell? ⟨R, 2, none⟩ = some v2 ∧ W.frozen? ⟨R, 1, none⟩ = false ∧ W.frozen? ⟨R, 2, none⟩ = false :=
  ⟨cell_of_heap h.head rfl, cell_of_heap h.head rfl, frozen_of_heap h.head, frozen_of_heap h.head⟩
end
theorem own_nil {n : Nat} {v : Value} (h : n = 0 → v = .slice none 0 0) (h0 : n = 0) : v = .slice none 0 0 := h h0
theorem slot_own {W : World} {base n : Nat} {t : TypeId} {v : Value} {xs : List Value} {F : List Nat} {f : Nat → Nat} (h : W.ownsRow base t 1 v n xs) (hF : ∀ g, v.ownBlock = some g → g ∈ F) (hx : ∀ i, i < n → xs[i]? = some (.int .i64 (f i))) (hz : n = 0 → v = .slice none 0 0) : Slot W F t v n f := by
  obtain ⟨hl, ⟨rfl, rfl⟩ | ⟨g, cap, cur, rfl, hg, hh, hn, _, hs, ht⟩⟩ := h
  · exact ⟨none, 0, rfl, fun h0 => by omega, fun _ => ⟨rfl, rfl⟩⟩
  · refine ⟨_, cap, rfl, fun _ => ⟨g, hF g (by simp [Value.ownBlock]), rfl, cur, hh, fun i hi => ?_⟩, fun h0 => by cases hz h0⟩
    have := hx i hi
    rw [← ht, List.getElem?_take, if_pos (by omega)] at this
    simpa using this
/-- A tally of the document of the call's own. -/
structure OwnRef (w W : World) (F : List Nat) (R n : Nat) (lab wt : Nat → Nat) : Prop where
  at_ : RefAt W F R n lab wt
  new : ∀ k, k ∈ F → w.heap.size ≤ k
  only : Only [] w W
theorem RPart.ref {w : World} {R : Nat} {xs1 xs2 : List Value} {lab wt : Nat → Nat} {n : Nat} {v1 v2 : Value} {W : World} (h : RPart w R n n xs1 xs2 v1 v2 W) (h1 : ∀ i, i < n → xs1[i]? = some (.int .i64 (wt i))) (h2 : ∀ i, i < n → xs2[i]? = some (.int .i64 (lab i))) (hl : Labs n lab) (hn : n ≤ 65536) (ht : total n wt ≤ 3037000499) : ∃ F, OwnRef w W F R n lab wt := by
  refine ⟨R :: (v1.ownBlock.toList ++ v2.ownBlock.toList), ⟨v1, v2, h.head, List.mem_cons_self, slot_own h.r1 (fun g hg => by simp [hg]) h1 h.e1, slot_own h.r2 (fun g hg => by simp [hg]) h2 h.e2, hl, hn, ht, fun k hk => ?_⟩, fun k hk => ?_, only_of_below' h.bel⟩
  · rcases List.mem_cons.1 hk with rfl | hk
    · exact heap_lt h.head
    · rcases List.mem_append.1 hk with hk | hk
      · obtain ⟨cs, hc, _⟩ := own_type h.r1 (by simpa using hk)
        exact heap_lt hc
      · obtain ⟨cs, hc, _⟩ := own_type h.r2 (by simpa using hk)
        exact heap_lt hc
  · rcases List.mem_cons.1 hk with rfl | hk
    · exact h.hR
    · rcases List.mem_append.1 hk with hk | hk
      · obtain ⟨cs, _, hb⟩ := own_type h.r1 (by simpa using hk)
        exact hb
      · obtain ⟨cs, _, hb⟩ := own_type h.r2 (by simpa using hk)
        exact hb
theorem RPart.done {w : World} {R : Nat} {f : Nat → Int} {n : Nat} {v1 v2 : Value} {W : World} (h : RPart w R n n (rowI f n) (rowN n) v1 v2 W) (hc : newCode n f = 0) : ∃ F, OwnRef w W F R n id (wtOf f) := by
  have hn : n ≤ 65536 ∧ Fit f n ∧ total n (wtOf f) ≤ 3037000499 := by
    unfold newCode at hc
    by_cases h1 : n ≤ 65536 ∧ Fit f n
    · rw [if_pos h1] at hc
      by_cases h2 : total n (wtOf f) ≤ 3037000499
      · exact ⟨h1.1, h1.2, h2⟩
      · rw [if_neg h2] at hc; cases hc
    · rw [if_neg h1] at hc; cases hc
  refine h.ref (fun i hi => ?_) (fun i hi => by simp [rowN, hi]) (Labs.id n) hn.1 hn.2.2
  have := hn.2.1 i hi
  simp [rowI, hi, wtOf]
  omega

/-- How New of the document ends. -/
def RNewPost (n : Nat) (f : Nat → Int) (w : World) (e : Ending) (w' : World) : Prop := (newCode n f ≠ 0 ∧ e = .returned (.tuple #[.pointer none, .int .i64 (newCode n f)]) ∧ Only [] w w') ∨
  (newCode n f = 0 ∧ ∃ F R, e = .returned (.tuple #[.pointer (some ⟨R, 0, none⟩), .int .i64 0]) ∧ OwnRef w w' F R n id (wtOf f))
theorem RNewPost.err {n : Nat} {f : Nat → Int} {w w' : World} {c : Int} (hc : newCode n f = c) (h0 : c ≠ 0) (o : Only [] w w') : RNewPost n f w (.returned (.tuple #[.pointer none, .int .i64 c])) w' := by
  subst hc; exact .inl ⟨h0, rfl, o⟩
theorem sq_words (s : Nat) : (s ≤ 3037000499 → s * s / 18446744073709551616 = 0 ∧ s * s % 18446744073709551616 ≤ 9223372036854775807) ∧ (3037000499 < s → 0 < s * s / 18446744073709551616 ∨ 9223372036854775807 < s * s % 18446744073709551616) := by
  constructor
  · intro h
    have := Nat.mul_le_mul h h
    omega
  · intro h
    have := Nat.mul_le_mul h h
    omega

set_option maxRecDepth 100000 in
set_option maxHeartbeats 4000000 in
theorem RNew_walk (A : Option Addr) (n c : Nat) (f : Nat → Int) (w : World) (h : IntsIn w .i64 A n f) : Calls Try.prog 35 #[.slice A n c] w (RNewPost n f w) := by
  have hl := h.len
  unfold maxLen at hl
  have HI := Lib.hid h
  obtain ⟨i0, hi, hz0, hz1, hz2⟩ := infoI64
  obtain ⟨i1, hj, hy0, hy1, hy2⟩ := infoI
  clear h
  by_cases hn : 65536 < n
  · have HC := Lib.hid (newCode_long (f := f) hn)
    go_enter Try.func35, Try.ntmps35
    go_wp2_with fail
    go_ret2
    exact RNewPost.err HC.out (by decide) (Only.refl _ _)
  · go_enter Try.func35, Try.ntmps35
    go_wp2_with fail
    go_loop [4, 5] (fun s i => ∃ k : Nat, k ≤ n ∧ i = .int .i64 k ∧ s = .int .i64 (total k (wtOf f)) ∧ Hid (Fit f k)) (fun _ i => n - (intOf i).toNat)
    case atStart => exact ⟨0, Nat.zero_le _, rfl, rfl, Lib.hid fun j hj => by omega⟩
    case round =>
      obtain ⟨k, hk, rfl, rfl, hf⟩ := hrel
      have ht := total_wt hf.out
      have ht2 : total k (wtOf f) ≤ 72057594037927936 := by omega
      clear ht
      by_cases hlt : k < n
      · obtain ⟨b, off, rfl, hc⟩ := HI.out.cell hlt
        by_cases h1 : f k < 0
        · have HC := Lib.hid (newCode_bad hlt (.inl h1))
          go_wp2_with fail
          go_ret2
          exact RNewPost.err HC.out (by decide) (Only.refl _ _)
        · by_cases h2 : 1099511627776 < f k
          · have HC := Lib.hid (newCode_bad hlt (.inr h2))
            go_wp2_with fail
            go_ret2
            exact RNewPost.err HC.out (by decide) (Only.refl _ _)
          · have HF := Lib.hid (show Fit f (k + 1) from fun j hj => by
              by_cases e : j = k
              · subst e; omega
              · exact hf.out j (by omega))
            have HT := Lib.hid (show (total (k + 1) (wtOf f) : Int) = total k (wtOf f) + f k by simp only [total, wtOf]; omega)
            go_wp2_with fail
            go_round
            case rel => exact ⟨k + 1, by omega, by go_num, by rw [HT.out], HF⟩
            case measure => simp [intOf]; omega
      · obtain rfl : k = n := by omega
        have HC1 := Lib.hid (fun h => newCode_over (n := k) (f := f) (by omega) hf.out h)
        have HC2 := Lib.hid (fun h => newCode_ok (n := k) (f := f) (by omega) hf.out h)
        obtain ⟨s, hs⟩ : ∃ s, total k (wtOf f) = s := ⟨_, rfl⟩
        rw [hs] at HC1 HC2 ht2 ⊢
        clear hs
        have SW := Lib.hid (sq_words s)
        have CM := Lib.hid (fun W => mul64_any s s (by omega) (by omega) W)
        obtain ⟨p, hp⟩ : ∃ p, s * s / 18446744073709551616 = p := ⟨_, rfl⟩
        obtain ⟨q, hq⟩ : ∃ q, s * s % 18446744073709551616 = q := ⟨_, rfl⟩
        rw [hp, hq] at SW CM
        clear hp hq
        by_cases h3 : 3037000499 < s
        · have HC := Lib.hid (HC1.out h3)
          have hpq := SW.out.2 h3
          by_cases hp0 : 0 < p
          · clear h3 hpq
            go_wp2_with fail
            refine (CM.out _).mono ?_
            rintro e w' ⟨rfl, rfl⟩
            go_wp2_with fail
            go_ret2
            exact RNewPost.err HC.out (by decide) (Only.refl _ _)
          · have hq0 : 9223372036854775807 < q := by omega
            clear h3 hpq
            go_wp2_with fail
            refine (CM.out _).mono ?_
            rintro e w' ⟨rfl, rfl⟩
            go_wp2_with fail
            go_ret2
            exact RNewPost.err HC.out (by decide) (Only.refl _ _)
        · have HC := Lib.hid (HC2.out (by omega))
          obtain ⟨hp0, hq0⟩ := SW.out.1 (by omega)
          subst hp0
          clear h3
          obtain ⟨w1, hw1⟩ : ∃ w1, w.alloc (.cells #[.bool true, .slice none 0 0, .slice none 0 0] 138) = w1 := ⟨_, rfl⟩
          have HP := Lib.hid (show RPart w w.heap.size 0 0 (rowI f 0) (rowN 0) (.slice none 0 0) (.slice none 0 0) w1 from ⟨by rw [← hw1]; exact heap_alloc_new w _, World.ownsRow_nil _ _ _ _, World.ownsRow_nil _ _ _ _, fun _ => rfl, fun _ => rfl, by rw [← hw1]; exact (Below.refl _ w).alloc (Nat.le_refl _) _, Nat.le_refl _⟩)
          have HW := Lib.hid hw1
          clear hw1
          go_wp2_with fail
          refine (CM.out _).mono ?_
          rintro e w' ⟨rfl, rfl⟩
          go_wp2_with fail
          rw [HW.out]
          go_loopw [9] (fun i wr => ∃ (j : Nat) (v1 v2 : Value), j ≤ k ∧ i = .int .i64 j ∧ Hid (RPart w w.heap.size j j (rowI f j) (rowN j) v1 v2 wr)) (fun i _ => k - (intOf i).toNat)
          case atStart => exact ⟨0, _, _, Nat.zero_le _, rfl, HP⟩
          case round =>
            obtain ⟨j, v1, v2, hjk, rfl, HR⟩ := hrel
            by_cases hjl : j < k
            · obtain ⟨b, off, rfl, hc⟩ := (HI.out.only (only_of_below' HR.out.bel)).cell hjl
              obtain ⟨d1, d2, z1, z2⟩ := HR.out.cells
              go_wp2_with fail
              have HD := Lib.hid (HR.out.drewN 1)
              have hown := HR.out.r1
              have hsz := HR.out.bel.size
              have hRlt := heap_lt HR.out.head
              go_region_law ((refine step_append_lies _ (by rfl) _ _ 25 (by rfl) w.heap.size 2 i0 (.int .i64 0) 1 8 Try.underlying25 hi hz0 hz1 hz2 rfl (by decide) v1 j (rowI f j) (by rfl) ((hown.alloc _).drew) ⟨wr.heap.size, 0, none⟩ 1 1 [.int .i64 (f j)] (by rfl) (by rfl) (cell_one_at _ _ _) (by simp [Value.oneCell']) (by omega) (by unfold maxLen; omega) (by omega) (by simp; omega) _ rfl ?_; intro g5 cap5 w5 hown5 hgrow5 _ _; obtain ⟨e1, e2⟩ := HD.out.kept1 (.inr ⟨_, rfl⟩) hgrow5; have HN := Lib.hid (HD.out.next1 (.inr ⟨_, rfl⟩) (by omega) hown5 hgrow5); clear hown5 hgrow5))
              all_goals
                obtain ⟨w6, hw6⟩ : ∃ w6, w5.setCell ⟨w.heap.size, 1, none⟩ (.slice (some ⟨g5, 0, none⟩) (j + 1) cap5) = w6 := ⟨_, rfl⟩
                rw [hw6] at HN ⊢
                obtain ⟨d1, d2, z1, z2⟩ := HN.out.cells
                have hown2 := HN.out.r2
                have hsz2 := HN.out.bel.size
                have hRlt2 := heap_lt HN.out.head
                clear hw6 e1 e2 hown hsz hRlt hc
                go_wp2_with (at_builtin; refine wpList_append_own _ rfl _ _ 68 rfl w.heap.size 3 i1 (.int .i64 0) 1 8 Try.underlying68 hj hy0 hy1 hy2 rfl (by decide) _ _ _ rfl (hown2.alloc _) ⟨w6.heap.size, 0, none⟩ 1 1 [.int .i64 (j : Int)] rfl rfl (cell_one_at _ _ _) (by simp [Value.oneCell']) (by unfold maxLen; omega) (by omega) (by simp; omega) ?_; intro v7 w7 hown7 hgrow7 _; obtain ⟨e1, e2⟩ := HN.out.kept2 (.inr ⟨_, rfl⟩) hgrow7; obtain ⟨g7, cap7, rfl⟩ := ownsRow_succ hown7; have HM := Lib.hid (HN.out.next2 (.inr ⟨_, rfl⟩) (by omega) hown7 hgrow7); clear hown7 hgrow7 hown2)
                go_roundw
                case rel => exact ⟨j + 1, _, _, by omega, by go_num, Lib.hid (by rw [rowI_succ, rowN_succ]; exact HM.out)⟩
                case measure => simp [intOf]; omega
            · obtain rfl : j = k := by omega
              obtain ⟨F, hF⟩ := HR.out.done HC.out
              have HE := Lib.hid (show RNewPost j f w (.returned (.tuple #[.pointer (some ⟨w.heap.size, 0, none⟩), .int .i64 0])) wr from .inr ⟨HC.out, F, _, rfl, hF⟩)
              go_wp2_with fail
              go_ret2
              exact HE.out
end Go.Proofs.Ytbafacdknaopjaa

/-
  The document's tally of chapter 10: Even, Copy.
-/
namespace Go.Proofs.Ytbafacdknaopjaa
open Go.RowKit
set_option linter.unusedSimpArgs false
set_option linter.unusedSectionVars false

def rowOf (f : Nat → Nat) (n : Nat) : List Value := (List.range n).map fun (i : Nat) => Value.int .i64 (f i : Int)
theorem rowOf_one (f : Nat → Nat) (n : Nat) : ∀ u ∈ rowOf f n, u.oneCell' = true := fun u hu => by
  obtain ⟨i, _, rfl⟩ := List.mem_map.1 hu
  rfl
def oneR : Nat → Int := fun _ => 1
theorem code_ones2 {n : Nat} (hn : n ≤ 65536) : newCode n oneR = 0 := by
  refine newCode_ok (by omega) (fun j hj => ⟨by unfold oneR; omega, by unfold oneR; omega⟩) ?_
  have : total n (wtOf oneR) = total n (fun _ => 1) := total_congr fun a _ => rfl
  rw [this, total_ones]
  omega
set_option maxRecDepth 100000 in
set_option maxHeartbeats 4000000 in
theorem REven (n : Nat) (hn : n ≤ 65536) (w : World) : Calls Try.prog 40 #[.int .i64 n] w fun e w' => ∃ F R, e = .returned (.tuple #[.pointer (some ⟨R, 0, none⟩), .int .i64 0]) ∧ OwnRef w w' F R n id (fun _ => 1) := by
  obtain ⟨i0, hi, hz0, hz1, hz2⟩ := infoI64
  go_enter Try.func40, Try.ntmps40
  go_wp2_with fail
  go_loopw [4, 5] (fun v i wr => ∃ k : Nat, k ≤ n ∧ i = .int .i64 k ∧ Hid (Listed w oneR k v wr)) (fun _ i _ => n - (intOf i).toNat)
  case atStart => exact ⟨0, Nat.zero_le _, rfl, Lib.hid ⟨World.ownsRow_nil _ _ _ _, Below.refl _ _⟩⟩
  case round =>
    obtain ⟨k, hk, rfl, hL⟩ := hrel
    by_cases hlt : k < n
    · have hown := hL.out.1
      have hsz := hL.out.2.size
      go_wp2_with (at_builtin; refine wpList_append_own _ rfl _ _ 25 rfl w.heap.size 2 i0 (.int .i64 0) 1 8 Try.underlying25 hi hz0 hz1 hz2 rfl (by decide) _ _ _ rfl (hown.alloc _) ⟨wr.heap.size, 0, none⟩ 1 1 [.int .i64 1] rfl rfl (cell_one_at _ _ _) (by simp [Value.oneCell']) (by unfold maxLen; omega) (by omega) (by simp; omega) ?_; intro v' w1 hown' hgrow _; have HN := Lib.hid (hL.out.next hown' hgrow); clear hown' hgrow hown)
      go_roundw
      case rel => exact ⟨k + 1, by omega, by go_num, HN⟩
      case measure => simp [intOf]; omega
    · obtain rfl : k = n := by omega
      obtain ⟨A', c', rfl, hI⟩ := ints_own hL.out.1 fun j _ => (show (Lit.int .i64 1).wf = true by decide)
      have hO := only_of_below' hL.out.2
      have HC := Lib.hid (code_ones2 hn)
      have CN := Lib.hid (RNew_walk A' k c' oneR wr hI)
      have HO := Lib.hid hO
      clear hI hO hL
      go_wp2_with fail
      refine CN.out.mono ?_
      rintro e w1 (⟨h1, _⟩ | ⟨_, F, R, rfl, hr⟩)
      · exact absurd HC.out h1
      have HR := Lib.hid (show OwnRef w w1 F R k id (fun _ => 1) from ⟨hr.at_, fun j hj => Nat.le_trans HO.out.size (hr.new j hj), HO.out.trans hr.only⟩)
      clear hr
      go_wp2_with fail
      go_ret2
      exact ⟨F, R, rfl, HR.out⟩
set_option maxRecDepth 100000 in
theorem REven_bad (n : Int) (hn : n < 0 ∨ 65536 < n) (w : World) : Calls Try.prog 40 #[.int .i64 n] w fun e w' => e = .returned (.tuple #[.pointer none, .int .i64 2]) ∧ w = w' := by
  by_cases h0 : n < 0
  · clear hn
    go_enter Try.func40, Try.ntmps40
    go_wp2_with fail
    go_ret2
    exact ⟨rfl, rfl⟩
  · have h1 : 65536 < n := by omega
    clear hn
    go_enter Try.func40, Try.ntmps40
    go_wp2_with fail
    go_ret2
    exact ⟨rfl, rfl⟩

theorem RPart.nil_put {w : World} {R : Nat} {W : World} (h : RPart w R 0 0 [] [] (.slice none 0 0) (.slice none 0 0) W) (i : Nat) (hi : i = 1 ∨ i = 2) : RPart w R 0 0 [] [] (.slice none 0 0) (.slice none 0 0) (W.setCell ⟨R, i, none⟩ (.slice none 0 0)) := by
  refine ⟨?_, World.ownsRow_nil _ _ _ _, World.ownsRow_nil _ _ _ _, h.e1, h.e2, h.bel.setCell h.hR _, h.hR⟩
  rcases hi with rfl | rfl
  · exact heap_setCell_same W R 1 _ 138 _ h.head
  · exact heap_setCell_same W R 2 _ 138 _ h.head
section
variable {W : World} {F : List Nat} {R : Nat} {v1 v2 : Value} {n : Nat} {lab wt : Nat → Nat} (h : Ref W F R v1 v2 n lab wt)
include h
set_option maxRecDepth 100000 in
set_option maxHeartbeats 4000000 in
theorem RCopy : Calls Try.prog 42 #[.pointer (some ⟨R, 0, none⟩)] W fun e w' => ∃ F' R', e = .returned (.pointer (some ⟨R', 0, none⟩)) ∧ OwnRef W w' F' R' n lab wt := by
  have CV := Lib.hid (rvalid_any h)
  obtain ⟨i0, hi, hz0, hz1, hz2⟩ := infoI64
  obtain ⟨i1, hj, hy0, hy1, hy2⟩ := infoI
  obtain ⟨w1, hw1⟩ : ∃ w1, W.alloc (.cells #[.bool true, .slice none 0 0, .slice none 0 0] 138) = w1 := ⟨_, rfl⟩
  have hO1 : Only [] W w1 := hw1 ▸ (Only.refl [] W).alloc _
  have HP := Lib.hid (show RPart W W.heap.size 0 0 [] [] (.slice none 0 0) (.slice none 0 0) w1 from ⟨by rw [← hw1]; exact heap_alloc_new W _, World.ownsRow_nil _ _ _ _, World.ownsRow_nil _ _ _ _, fun _ => rfl, fun _ => rfl, by rw [← hw1]; exact (Below.refl _ W).alloc (Nat.le_refl _) _, Nat.le_refl _⟩)
  have hR1 := h.keep hO1
  have c1 := hR1.c.2.1
  have c2 := hR1.c.2.2
  obtain ⟨p1, p2, z1, z2⟩ := HP.out.cells
  have HR := Lib.hid hR1
  have HW := Lib.hid hw1
  have hbd := h.bound
  by_cases hn : 0 < n
  · obtain ⟨A1, k1, rfl, _⟩ := id h.s1
    obtain ⟨A2, k2, rfl, _⟩ := id h.s2
    obtain ⟨g1, _, rfl, _, _⟩ := h.s1.cell hn
    obtain ⟨g2, _, rfl, _, _⟩ := h.s2.cell hn
    have hc1 : ∀ wr, Only [] W wr → ∀ j u, (rowOf wt n)[j]? = some u → wr.cell? ((⟨g1, 0, none⟩ : Addr).add j) = some u := fun wr o j u hu => by
      have hjn : j < n := by have := (List.getElem?_eq_some_iff.1 hu).1; simpa [rowOf] using this
      obtain ⟨_, _, e, _, l1⟩ := (h.keep o).s1.cell hjn
      cases e
      have e2 : ((⟨g1, 0, none⟩ : Addr).add j) = ⟨g1, j, none⟩ := by unfold Addr.add; split <;> simp_all
      rw [e2, l1]
      simp [rowOf, hjn] at hu
      rw [hu]
    have hc2 : ∀ wr, Only [] W wr → ∀ j u, (rowOf lab n)[j]? = some u → wr.cell? ((⟨g2, 0, none⟩ : Addr).add j) = some u := fun wr o j u hu => by
      have hjn : j < n := by have := (List.getElem?_eq_some_iff.1 hu).1; simpa [rowOf] using this
      obtain ⟨_, _, e, _, l1⟩ := (h.keep o).s2.cell hjn
      cases e
      have e2 : ((⟨g2, 0, none⟩ : Addr).add j) = ⟨g2, j, none⟩ := by unfold Addr.add; split <;> simp_all
      rw [e2, l1]
      simp [rowOf, hjn] at hu
      rw [hu]
    have HC1 := Lib.hid hc1
    have HC2 := Lib.hid hc2
    have HK := Lib.hid (fun wr (o : Only [] W wr) => (h.keep o).c.2.2)
    have HO1 := Lib.hid hO1
    have hsz : W.heap.size ≤ w1.heap.size := hO1.size
    have hne : R ≠ W.heap.size := fun e => by have := h.lt R h.inF; omega
    have HL := Lib.hid (And.intro h.labs h.low)
    clear h hR1 hw1 hc1 hc2
    go_enter Try.func42, Try.ntmps42
    go_wp2_with fail
    refine CV.out.mono ?_
    rintro e w' ⟨rfl, rfl⟩
    go_wp2_with fail
    rw [HW.out]
    have HD := Lib.hid (HP.out.drewN 1)
    go_region_law ((refine step_append_lies _ (by rfl) _ _ 25 (by rfl) W.heap.size 2 i0 (.int .i64 0) 1 8 Try.underlying25 hi hz0 hz1 hz2 rfl (by decide) (.slice none 0 0) 0 [] (by rfl) (World.ownsRow_nil _ _ _ _) ⟨g1, 0, none⟩ n k1 (rowOf wt n) (by rfl) (by simp [rowOf]) (HC1.out _ (HO1.out.drewN 1)) (rowOf_one _ _) hn (by unfold maxLen; omega) (by omega) (by simp; omega) _ rfl ?_; intro g5 cap5 w5 hown5 hgrow5 _ _; obtain ⟨e1, e2⟩ := HD.out.kept1 (.inl rfl) hgrow5; have HN := Lib.hid (HD.out.next1 (.inl rfl) hn hown5 hgrow5); clear hown5 hgrow5))
    all_goals
      obtain ⟨w6, hw6⟩ : ∃ w6, w5.setCell ⟨W.heap.size, 1, none⟩ (.slice (some ⟨g5, 0, none⟩) (0 + n) cap5) = w6 := ⟨_, rfl⟩
      rw [Nat.zero_add] at hw6
      rw [Nat.zero_add] at HN
      rw [hw6] at HN ⊢
      obtain ⟨d1, d2, y1, y2⟩ := HN.out.cells
      have hsz2 := HN.out.bel.size
      have c3 := HK.out w6 (only_of_below' HN.out.bel)
      have HO6 := Lib.hid (only_of_below' HN.out.bel)
      have HN1 := Lib.hid (HN.out.drewN 1)
      clear hw6 e1 e2 c1 c2 p1 p2 z1 z2
      go_wp2_with fail
      go_region_law ((refine step_append_lies _ (by rfl) _ _ 68 (by rfl) W.heap.size 3 i1 (.int .i64 0) 1 8 Try.underlying68 hj hy0 hy1 hy2 rfl (by decide) (.slice none 0 0) 0 [] (by rfl) (World.ownsRow_nil _ _ _ _) ⟨g2, 0, none⟩ n k2 (rowOf lab n) (by rfl) (by simp [rowOf]) (HC2.out _ (HO6.out.drewN 1)) (rowOf_one _ _) hn (by unfold maxLen; omega) (by omega) (by simp; omega) _ rfl ?_; intro g7 cap7 w7 hown7 hgrow7 _ _; obtain ⟨e1, e2⟩ := HN1.out.kept2 (.inl rfl) hgrow7; have HM := Lib.hid (HN1.out.next2 (.inl rfl) hn hown7 hgrow7); clear hown7 hgrow7))
      all_goals
        go_wp2_with fail
        go_ret
        have hm := HM.out
        rw [Nat.zero_add, List.nil_append, List.nil_append] at hm
        obtain ⟨F', hF'⟩ := hm.ref (lab := lab) (wt := wt) (fun i hi => by simp [rowOf, hi]) (fun i hi => by simp [rowOf, hi]) HL.out.1 hbd HL.out.2
        exact ⟨F', W.heap.size, rfl, hF'⟩
  · obtain rfl : n = 0 := by omega
    obtain ⟨A1, k1, rfl, _, e1⟩ := id h.s1
    obtain ⟨A2, k2, rfl, _, e2⟩ := id h.s2
    obtain ⟨rfl, rfl⟩ := e1 rfl
    obtain ⟨rfl, rfl⟩ := e2 rfl
    have HL := Lib.hid (And.intro h.labs h.low)
    have hRlt := h.lt R h.inF
    have HR0 := Lib.hid h
    clear h hR1 hw1
    go_enter Try.func42, Try.ntmps42
    go_wp2_with fail
    refine CV.out.mono ?_
    rintro e w' ⟨rfl, rfl⟩
    go_wp2_with fail
    rw [HW.out]
    have HK := Lib.hid (fun wr (o : Only [] W wr) => (HR0.out.keep o).c.2.2)
    go_region
    all_goals
      obtain ⟨w6, hw6⟩ : ∃ w6, (w1.setCell ⟨W.heap.size, 1, none⟩ (.slice none 0 0)).drew = w6 := ⟨_, rfl⟩
      have HN := Lib.hid (show RPart W W.heap.size 0 0 [] [] (.slice none 0 0) (.slice none 0 0) w6 from hw6 ▸ (HP.out.nil_put 1 (by omega)).drewN 1)
      rw [hw6]
      obtain ⟨d1, d2, y1, y2⟩ := HN.out.cells
      have c3 := HK.out w6 (only_of_below' HN.out.bel)
      clear hw6 c1 c2 p1 p2 z1 z2
      go_wp2_with fail
      go_region
      all_goals
        have HM := Lib.hid ((HN.out.nil_put 2 (by omega)).drewN 1)
        go_wp2_with fail
        go_ret
        obtain ⟨F', hF'⟩ := HM.out.ref (lab := lab) (wt := wt) (fun i hi => by omega) (fun i hi => by omega) HL.out.1 hbd HL.out.2
        exact ⟨F', W.heap.size, rfl, hF'⟩
end
end Go.Proofs.Ytbafacdknaopjaa
