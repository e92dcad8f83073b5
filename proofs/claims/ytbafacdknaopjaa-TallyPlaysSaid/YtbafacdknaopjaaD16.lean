/-
  A new tally: New, Even.
-/
import Derived.Test.YtbafacdknaopjaaD15
import Derived.Test.YtbafacdknaopjaaB1
namespace Go.Proofs.Ytbafacdknaopjaa
open Go.RowKit
set_option linter.unusedSimpArgs false
set_option linter.unusedSectionVars false

theorem IntsIn.cell {w : World} {k : IntKind} {A : Option Addr} {n : Nat} {f : Nat → Int} (h : IntsIn w k A n f) {j : Nat} (hj : j < n) : ∃ b off, A = some ⟨b, off, none⟩ ∧ w.cell? ⟨b, off + j, none⟩ = some (.int k (f j)) := by
  obtain ⟨b, off, hA, _, hc⟩ := h.row (by omega)
  exact ⟨b, off, hA, hc j hj⟩
theorem IntsIn.only {w w' : World} {k : IntKind} {A : Option Addr} {n : Nat} {f : Nat → Int} (h : IntsIn w k A n f) (hO : Only [] w w') : IntsIn w' k A n f :=
  ⟨fun hn => by
    obtain ⟨b, off, hA, hb, hc⟩ := h.row hn
    exact ⟨b, off, hA, Nat.lt_of_lt_of_le hb hO.size, fun j hj => (World.cell?_of_block (w := w) (hO.block b hb (by simp))).trans (hc j hj)⟩, h.wf, h.len⟩
theorem wf_i64 {n : Int} (h : (Lit.int .i64 n).wf = true) : -9223372036854775808 ≤ n ∧ n ≤ 9223372036854775807 := by simpa [Lit.wf, IntKind.min, IntKind.max, IntKind.bits, IntKind.signed] using h

set_option maxRecDepth 100000 in
theorem build_bad (n : Int) (v : Value) (w : World) (hn : n < 0 ∨ 65536 < n) : Calls Try.prog 80 #[.int .i64 n, v] w fun e w' => e = .returned (.tuple #[.pointer none, .int .i64 2]) ∧ w = w' := by
  have CN := Lib.hid (DNew_bad n hn w)
  clear hn
  go_enter Try.func80, Try.ntmps80
  go_wp2_with fail
  refine CN.out.mono ?_
  rintro e w' ⟨rfl, rfl⟩
  go_wp2_with fail
  go_ret2
  exact ⟨rfl, rfl⟩

set_option maxRecDepth 100000 in
theorem even1_any (k : Int) (W : World) : Calls Try.prog 89 #[.int .i64 k] W fun e w' => e = .returned (.int .i64 1) ∧ w' = W := by
  go_enter Try.func89, Try.ntmps89
  go_wp2
  go_ret
  exact ⟨rfl, rfl⟩
theorem total_ones (n : Nat) : total n (fun _ => 1) = n := by
  induction n with
  | zero => rfl
  | succ n ih => simp only [total, ih]
set_option maxRecDepth 100000 in
theorem TEven (n : Nat) (hn : n ≤ 65536) (w : World) : Calls Try.prog 39 #[.int .i64 n] w fun e w' => ∃ F A, e = .returned (.tuple #[.pointer (some ⟨A, 0, none⟩), .int .i64 0]) ∧ TalAt w' F A n id (fun _ => 1) ∧ (∀ k, k ∈ F → w.heap.size ≤ k) ∧ Only [] w w' := by
  have CB := Lib.hid (build_ok n 89 #[] (fun _ => 1) w hn (fun _ _ => by kernel_rfl) (by rw [total_ones]; omega) (fun k _ W _ => even1_any k W))
  go_enter Try.func39, Try.ntmps39
  go_wp2_with fail
  refine CB.out.mono ?_
  rintro e w1 ⟨F, A, rfl, ht, hF, hO⟩
  have H := Lib.hid (And.intro ht (And.intro hF hO))
  clear ht hF hO
  go_wp2_with fail
  go_ret2
  exact ⟨F, A, rfl, H.out⟩
set_option maxRecDepth 100000 in
theorem TEven_bad (n : Int) (hn : n < 0 ∨ 65536 < n) (w : World) : Calls Try.prog 39 #[.int .i64 n] w fun e w' => e = .returned (.tuple #[.pointer none, .int .i64 2]) ∧ w = w' := by
  have CB := Lib.hid (fun v => build_bad n v w hn)
  clear hn
  go_enter Try.func39, Try.ntmps39
  go_wp2_with fail
  refine (CB.out _).mono ?_
  rintro e w' ⟨rfl, rfl⟩
  go_wp2_with fail
  go_ret2
  exact ⟨rfl, rfl⟩

/-- The weights of New are within what it allows. -/
def Fit (f : Nat → Int) (k : Nat) : Prop := ∀ j, j < k → 0 ≤ f j ∧ f j ≤ 1099511627776
instance (f : Nat → Int) (k : Nat) : Decidable (Fit f k) := inferInstanceAs (Decidable (∀ j, j < k → 0 ≤ f j ∧ f j ≤ 1099511627776))
def wtOf (f : Nat → Int) : Nat → Nat := fun j => (f j).toNat
/-- The error of New. -/
def newCode (n : Nat) (f : Nat → Int) : Int := if n ≤ 65536 ∧ Fit f n then (if total n (wtOf f) ≤ 3037000499 then 0 else 7) else 2
theorem newCode_long {n : Nat} {f : Nat → Int} (h : 65536 < n) : newCode n f = 2 := if_neg fun e => by omega
theorem newCode_bad {n k : Nat} {f : Nat → Int} (hk : k < n) (h : f k < 0 ∨ 1099511627776 < f k) : newCode n f = 2 := if_neg fun e => by have := e.2 k hk; omega
theorem newCode_over {n : Nat} {f : Nat → Int} (hn : n ≤ 65536) (h : Fit f n) (ht : 3037000499 < total n (wtOf f)) : newCode n f = 7 := by unfold newCode; rw [if_pos ⟨hn, h⟩, if_neg (by omega)]
theorem newCode_ok {n : Nat} {f : Nat → Int} (hn : n ≤ 65536) (h : Fit f n) (ht : total n (wtOf f) ≤ 3037000499) : newCode n f = 0 := by unfold newCode; rw [if_pos ⟨hn, h⟩, if_pos ht]
/-- How New ends. -/
def NewPost (n : Nat) (f : Nat → Int) (w : World) (e : Ending) (w' : World) : Prop := (newCode n f ≠ 0 ∧ e = .returned (.tuple #[.pointer none, .int .i64 (newCode n f)]) ∧ Only [] w w') ∨
  (newCode n f = 0 ∧ ∃ F A, e = .returned (.tuple #[.pointer (some ⟨A, 0, none⟩), .int .i64 0]) ∧ TalAt w' F A n id (wtOf f) ∧ (∀ k, k ∈ F → w.heap.size ≤ k) ∧ Only [] w w')
theorem NewPost.err {n : Nat} {f : Nat → Int} {w w' : World} {c : Int} (hc : newCode n f = c) (h0 : c ≠ 0) (o : Only [] w w') : NewPost n f w (.returned (.tuple #[.pointer none, .int .i64 c])) w' := by
  subst hc; exact .inl ⟨h0, rfl, o⟩
theorem total_wt {n : Nat} {f : Nat → Int} (h : Fit f n) : total n (wtOf f) ≤ n * 1099511627776 := by
  induction n with
  | zero => exact Nat.le_refl _
  | succ n ih =>
    have := ih fun j hj => h j (by omega)
    have := h n (by omega)
    unfold wtOf at *
    simp only [total]
    omega
theorem sq_over {s : Nat} (h0 : 0 < s) : decide ((s : Int) > 9223372036854775807 / (s : Int)) = decide (3037000499 < s) := by
  rw [decide_eq_decide]
  have e : (9223372036854775807 : Int) / (s : Int) = ((9223372036854775807 / s : Nat) : Int) := rfl
  rw [e]
  by_cases h : 3037000499 < s
  · have h1 : 9223372036854775807 / s < s := (Nat.div_lt_iff_lt_mul h0).2 (Nat.lt_of_lt_of_le (by decide) (Nat.mul_le_mul h h))
    omega
  · have h1 : s ≤ 9223372036854775807 / s := (Nat.le_div_iff_mul_le h0).2 (Nat.le_trans (Nat.mul_le_mul (show s ≤ 3037000499 by omega) (show s ≤ 3037000499 by omega)) (by decide))
    omega

set_option maxRecDepth 100000 in
theorem new1_any (Bw k n c : Nat) (A : Option Addr) (f : Nat → Int) (W : World) (hb : W.cell? ⟨Bw, 0, none⟩ = some (.slice A n c)) (h : IntsIn W .i64 A n f) (hk : k < n) :
    Calls Try.prog 81 #[.int .i64 k, .pointer (some ⟨Bw, 0, none⟩)] W fun e w' => e = .returned (.int .i64 (f k)) ∧ w' = W := by
  obtain ⟨b, off, rfl, hc⟩ := h.cell hk
  have hl := h.len
  unfold maxLen at hl
  clear h
  go_enter Try.func81, Try.ntmps81
  go_wp2
  go_ret
  exact ⟨rfl, rfl⟩

set_option maxRecDepth 100000 in
set_option maxHeartbeats 4000000 in
theorem New_walk (A : Option Addr) (n c : Nat) (f : Nat → Int) (w : World) (h : IntsIn w .i64 A n f) : Calls Try.prog 34 #[.slice A n c] w (NewPost n f w) := by
  have hl := h.len
  unfold maxLen at hl
  obtain ⟨w1, hw1⟩ : ∃ w1, w.alloc (.cells #[.slice A n c] 25) = w1 := ⟨_, rfl⟩
  have hO1 : Only [] w w1 := hw1 ▸ (Only.refl [] w).alloc _
  have k1 := heap_alloc_new w (.cells #[.slice A n c] 25)
  rw [hw1] at k1
  have c1 := cell_of_heap (i := 0) k1 rfl
  replace c1 : w1.cell? ⟨w.heap.size, 0, none⟩ = some (.slice A n c) := c1
  have HI := Lib.hid (h.only hO1)
  have HO := Lib.hid hO1
  have HW := Lib.hid hw1
  clear h hO1 k1 hw1
  by_cases hn : 65536 < n
  · have HC := Lib.hid (newCode_long (f := f) hn)
    go_enter Try.func34, Try.ntmps34
    go_wp2_with fail
    rw [HW.out]
    go_wp2_with fail
    go_ret2
    exact NewPost.err HC.out (by decide) HO.out
  · go_enter Try.func34, Try.ntmps34
    go_wp2_with fail
    rw [HW.out]
    go_wp2_with fail
    go_loop [4, 12] (fun s i => ∃ k : Nat, k ≤ n ∧ i = .int .i64 k ∧ s = .int .i64 (total k (wtOf f)) ∧ Hid (Fit f k)) (fun _ i => n - (intOf i).toNat)
    case atStart => exact ⟨0, Nat.zero_le _, rfl, rfl, Lib.hid fun j hj => by omega⟩
    case round =>
      obtain ⟨k, hk, rfl, rfl, hf⟩ := hrel
      have ht := total_wt hf.out
      have ht2 : total k (wtOf f) ≤ 72057594037927936 := by omega
      clear ht
      by_cases hlt : k < n
      · obtain ⟨b, off, rfl, hc⟩ := HI.out.cell hlt
        by_cases h1 : f k < 0
        · have HC := Lib.hid (newCode_bad hlt (.inl h1))
          go_wp2_with fail
          go_ret2
          exact NewPost.err HC.out (by decide) HO.out
        · by_cases h2 : 1099511627776 < f k
          · have HC := Lib.hid (newCode_bad hlt (.inr h2))
            go_wp2_with fail
            go_ret2
            exact NewPost.err HC.out (by decide) HO.out
          · have HF := Lib.hid (show Fit f (k + 1) from fun j hj => by
              by_cases e : j = k
              · subst e; omega
              · exact hf.out j (by omega))
            have HT := Lib.hid (show (total (k + 1) (wtOf f) : Int) = total k (wtOf f) + f k by simp only [total, wtOf]; omega)
            go_wp2_with fail
            go_round
            case rel => exact ⟨k + 1, by omega, by go_num, by rw [HT.out], HF⟩
            case measure => simp [intOf]; omega
      · obtain rfl : k = n := by omega
        have HT := Lib.hid (show 0 < total k (wtOf f) → decide ((total k (wtOf f) : Int) > 9223372036854775807 / (total k (wtOf f) : Int)) = decide (3037000499 < total k (wtOf f)) from sq_over)
        have CB := Lib.hid (fun (hs : total k (wtOf f) ≤ 3037000499) => build_ok k 81 #[.pointer (some ⟨w.heap.size, 0, none⟩)] (wtOf f) w1 (by omega) (fun _ _ => by kernel_rfl) hs (fun j hj W hO => by
          have := new1_any w.heap.size j k c A f W (cells_keep hO c1 (by simp)) (HI.out.only hO) hj
          have e : ((wtOf f j : Nat) : Int) = f j := by have := hf.out j hj; unfold wtOf; omega
          rw [e]; exact this))
        have HC1 := Lib.hid (fun h => newCode_over (n := k) (f := f) (by omega) hf.out h)
        have HC2 := Lib.hid (fun h => newCode_ok (n := k) (f := f) (by omega) hf.out h)
        obtain ⟨s, hs⟩ : ∃ s, total k (wtOf f) = s := ⟨_, rfl⟩
        rw [hs] at HT CB HC1 HC2 ht2 ⊢
        clear hs
        by_cases h0 : 0 < s
        · by_cases h3 : 3037000499 < s
          · have q := HT.out h0
            rw [decide_eq_true h3] at q
            have HC := Lib.hid (HC1.out h3)
            clear h3
            go_wp2_with fail
            go_ret2
            exact NewPost.err HC.out (by decide) HO.out
          · have q := HT.out h0
            rw [decide_eq_false h3] at q
            have HC := Lib.hid (HC2.out (by omega))
            have CB' := Lib.hid (CB.out (by omega))
            clear h3
            go_wp2_with fail
            refine CB'.out.mono ?_
            rintro e w2 ⟨F, A', rfl, ht, hF, hO⟩
            have HE := Lib.hid (show NewPost k f w _ w2 from .inr ⟨HC.out, F, A', rfl, ht, fun j hj => Nat.le_trans HO.out.size (hF j hj), HO.out.trans hO⟩)
            clear ht hF hO
            go_wp2_with fail
            go_ret2
            exact HE.out
        · have q : decide ((s : Int) > 0) = false := by simp; omega
          have HC := Lib.hid (HC2.out (by omega))
          have CB' := Lib.hid (CB.out (by omega))
          go_wp2_with fail
          refine CB'.out.mono ?_
          rintro e w2 ⟨F, A', rfl, ht, hF, hO⟩
          have HE := Lib.hid (show NewPost k f w _ w2 from .inr ⟨HC.out, F, A', rfl, ht, fun j hj => Nat.le_trans HO.out.size (hF j hj), HO.out.trans hO⟩)
          clear ht hF hO
          go_wp2_with fail
          go_ret2
          exact HE.out
theorem TNew {A : Option Addr} {n c : Nat} {f : Nat → Int} {w : World} (h : IntsIn w .i64 A n f) (h0 : newCode n f = 0) : Calls Try.prog 34 #[.slice A n c] w fun e w' =>
    ∃ F A', e = .returned (.tuple #[.pointer (some ⟨A', 0, none⟩), .int .i64 0]) ∧ TalAt w' F A' n id (wtOf f) ∧ (∀ k, k ∈ F → w.heap.size ≤ k) ∧ Only [] w w' :=
  (New_walk A n c f w h).mono fun _ _ h => by
    rcases h with ⟨h1, _⟩ | ⟨_, h2⟩
    · exact absurd h0 h1
    · exact h2
theorem TNew_err {A : Option Addr} {n c : Nat} {f : Nat → Int} {w : World} (h : IntsIn w .i64 A n f) (h0 : newCode n f ≠ 0) : Calls Try.prog 34 #[.slice A n c] w fun e w' => e = .returned (.tuple #[.pointer none, .int .i64 (newCode n f)]) ∧ Only [] w w' :=
  (New_walk A n c f w h).mono fun _ _ h => by
    rcases h with ⟨_, h2⟩ | ⟨h1, _⟩
    · exact h2
    · exact absurd h1 h0
end Go.Proofs.Ytbafacdknaopjaa
