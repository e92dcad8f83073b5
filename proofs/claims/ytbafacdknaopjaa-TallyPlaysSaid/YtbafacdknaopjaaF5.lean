/-
  The law's own helper made.
-/
import Derived.Test.YtbafacdknaopjaaF4
namespace Go.Proofs.Ytbafacdknaopjaa
open Go.RowKit
set_option linter.unusedSimpArgs false
set_option linter.unusedSectionVars false

theorem wf_u16 {n : Int} (h : (Lit.int .u16 n).wf = true) : 0 ≤ n ∧ n ≤ 65535 := by simpa [Lit.wf, IntKind.min, IntKind.max, IntKind.bits, IntKind.signed] using h
theorem wf_mk {n : Int} (h0 : 0 ≤ n) (h1 : n ≤ 9223372036854775807) : (Lit.int .i64 n).wf = true := by simp [Lit.wf, IntKind.min, IntKind.max, IntKind.bits, IntKind.signed]; omega
def rowI (f : Nat → Int) (k : Nat) : List Value := (List.range k).map fun i => .int .i64 (f i)
theorem rowI_succ (f : Nat → Int) (k : Nat) : rowI f (k + 1) = rowI f k ++ [.int .i64 (f k)] := by simp [rowI, List.range_succ]
theorem cell_one_at (w : World) (x : Value) (t : TypeId) : ∀ j u, [x][j]? = some u → (w.alloc (.cells #[x] t)).cell? ((⟨w.heap.size, 0, none⟩ : Addr).add j) = some u := by
  intro j u h
  have hh := heap_alloc_new w (.cells #[x] t)
  have e : ((⟨w.heap.size, 0, none⟩ : Addr).add j) = ⟨w.heap.size, j, none⟩ := by unfold Addr.add; split <;> simp_all
  rw [e]
  exact cell_of_heap hh (by simpa using h)
/-- The list of weights that made has put together. -/
def Listed (w : World) (f : Nat → Int) (k : Nat) (v : Value) (W : World) : Prop := W.ownsRow w.heap.size 2 1 v k (rowI f k) ∧ Below w.heap.size w W
theorem Listed.next {w W W' : World} {f : Nat → Int} {k : Nat} {v v' : Value} (h : Listed w f k v W) {o : Obj} (h1 : W'.ownsRow w.heap.size 2 1 v' (k + 1) (rowI f k ++ [.int .i64 (f k)])) (hg : (W.alloc o).grownBy W' v.ownBlock) : Listed w f (k + 1) v' W' := by
  obtain ⟨h1', h2⟩ := h
  refine ⟨by rw [rowI_succ]; exact h1, (h2.alloc h2.size o).grown hg (by rw [World.size_alloc]; have := h2.size; omega) fun j hj => ?_⟩
  obtain ⟨_, ⟨rfl, rfl⟩ | ⟨g, cap, cur, rfl, hgb, _⟩⟩ := h1'
  · simp [Value.ownBlock] at hj
  · simp [Value.ownBlock] at hj; omega
theorem ints_keep {w W : World} {A : Option Addr} {n : Nat} {f : Nat → Int} {k : IntKind} (h : IntsIn w k A n f) (hb : Below w.heap.size w W) : IntsIn W k A n f := h.only (only_of_below' hb)

/-- What made ends in. -/
def MadePost (n : Nat) (f : Nat → Int) (w : World) (e : Ending) (w' : World) : Prop := ∃ F T v, e = .returned (.tuple #[.pointer (some ⟨T, 0, none⟩), v]) ∧ OwnTal w w' F T (min n 60) id (wtOf f) ∧ ∃ A' c', v = .slice A' (min n 60) c' ∧ IntsIn w' .i64 A' (min n 60) f ∧ ∃ W0, Only [] w W0 ∧ OwnTal W0 w' F T (min n 60) id (wtOf f) ∧ IntsIn W0 .i64 A' (min n 60) f
theorem code_u16 {n : Nat} {f : Nat → Int} (hw : ∀ j, j < n → 0 ≤ f j ∧ f j ≤ 65535) (hn : n ≤ 60) : newCode n f = 0 := by
  refine newCode_ok (by omega) (fun j hj => ⟨(hw j hj).1, by have := (hw j hj).2; omega⟩) ?_
  have : total n (wtOf f) ≤ total n (fun _ => 65535) := total_le fun a ha => by have := hw a ha; unfold wtOf; omega
  have h2 : ∀ m, total m (fun _ => 65535) = m * 65535 := fun m => by
    induction m with
    | zero => rfl
    | succ m ih => simp only [total, ih]; omega
  rw [h2] at this
  omega
theorem new_listed {w W : World} {f : Nat → Int} {k n : Nat} {v : Value} (h : Listed w f k v W) (hk : k = min n 60) (hw : ∀ j, j < n → 0 ≤ f j ∧ f j ≤ 65535) : ∃ A c, v = .slice A k c ∧
    Calls Try.prog 34 #[.slice A k c] W fun e w' => ∃ T, e = .returned (.tuple #[.pointer (some ⟨T, 0, none⟩), .int .i64 0]) ∧ Hid (MadePost n f w (.returned (.tuple #[.pointer (some ⟨T, 0, none⟩), v])) w') := by
  have hw' : ∀ j, j < k → 0 ≤ f j ∧ f j ≤ 65535 := fun j hj => hw j (by omega)
  obtain ⟨A, c, rfl, hI⟩ := ints_own h.1 fun j hj => wf_mk (hw' j hj).1 (by have := (hw' j hj).2; omega)
  refine ⟨A, c, rfl, (TNew hI (code_u16 hw' (by omega))).mono ?_⟩
  rintro e w' ⟨F, T, rfl, ht, hF, hO⟩
  have hOw := only_of_below' h.2
  subst hk
  exact ⟨T, rfl, Lib.hid ⟨F, T, _, rfl, OwnTal.made hOw ht hF hO, A, c, rfl, hI.only hO, W, hOw, ⟨ht, hF, hO⟩, hI⟩⟩

set_option maxRecDepth 100000 in
set_option maxHeartbeats 4000000 in
theorem made_any (A : Option Addr) (n c : Nat) (f : Nat → Int) (w : World) (h : IntsIn w .u16 A n f) : Calls Try.prog 26 #[.slice A n c] w (MadePost n f w) := by
  obtain ⟨i0, hi, hz0, hz1, hz2⟩ := infoI64
  have hl := h.len
  unfold maxLen at hl
  have HI := Lib.hid h
  clear h
  go_enter Try.func26, Try.ntmps26
  go_wp2_with fail
  go_loopw [4, 5] (fun v i wr => ∃ k : Nat, k ≤ n ∧ k ≤ 60 ∧ i = .int .i64 k ∧ Hid (Listed w f k v wr)) (fun _ i _ => n - (intOf i).toNat)
  case atStart => exact ⟨0, Nat.zero_le _, Nat.zero_le _, rfl, Lib.hid ⟨World.ownsRow_nil _ _ _ _, Below.refl _ _⟩⟩
  case round =>
    obtain ⟨k, hk, hk60, rfl, hL⟩ := hrel
    by_cases hlt : k < n
    · by_cases h60 : k < 60
      · obtain ⟨b, off, rfl, hc⟩ := (ints_keep HI.out hL.out.2).cell hlt
        obtain ⟨f0, f1⟩ := wf_u16 (HI.out.wf k hlt)
        have hown := hL.out.1
        have hsz := hL.out.2.size
        go_wp2_with (at_builtin; refine wpList_append_own _ rfl _ _ 25 rfl w.heap.size 2 i0 (.int .i64 0) 1 8 Try.underlying25 hi hz0 hz1 hz2 rfl (by decide) _ _ _ rfl (hown.alloc _) ⟨wr.heap.size, 0, none⟩ 1 1 [.int .i64 (f k)] rfl rfl (cell_one_at _ _ _) (by simp [Value.oneCell']) (by unfold maxLen; omega) (by omega) (by simp; omega) ?_; intro v' w1 hown' hgrow _; have HN := Lib.hid (hL.out.next hown' hgrow); clear hown' hgrow hown)
        go_roundw
        case rel => exact ⟨k + 1, by omega, by omega, by go_num, HN⟩
        case measure => simp [intOf]; omega
      · obtain rfl : k = 60 := by omega
        obtain ⟨A', c', rfl, CN⟩ := new_listed hL.out (n := n) (by omega) (fun j hj => wf_u16 (HI.out.wf j hj))
        have CN' := Lib.hid CN
        clear CN hL
        go_wp2_with fail
        refine CN'.out.mono ?_
        rintro e w2 ⟨T, rfl, HP⟩
        go_wp2_with fail
        go_ret2
        exact HP.out
    · obtain rfl : k = n := by omega
      obtain ⟨A', c', rfl, CN⟩ := new_listed hL.out (n := k) (by omega) (fun j hj => wf_u16 (HI.out.wf j hj))
      have CN' := Lib.hid CN
      clear CN hL
      go_wp2_with fail
      refine CN'.out.mono ?_
      rintro e w2 ⟨T, rfl, HP⟩
      go_wp2_with fail
      go_ret2
      exact HP.out
end Go.Proofs.Ytbafacdknaopjaa
