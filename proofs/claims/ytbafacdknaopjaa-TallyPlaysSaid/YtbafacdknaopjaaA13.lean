/-
  Mul64 and Add64 in this program; the walk of a tree, given what a visit does.
-/
import Derived.Test.YtbafacdknaopjaaA12
import Derived.Shelf.Bits.Mul64
import Derived.Laws.Externs
namespace Go.Proofs.Ytbafacdknaopjaa
open Go.RowKit
set_option linter.unusedSimpArgs false

theorem add64_any (x y c : Nat) (hc : c ≤ 1) (w : World) :
    (callFunc 131 #[.int .u64 x, .int .u64 y, .int .u64 c]).run Try.prog w =
      .ok (.value (.tuple #[.int .u64 (((x + y + c) % 18446744073709551616 : Nat) : Int), .int .u64 (((x + y + c) / 18446744073709551616 : Nat) : Int)])) w := by
  rw [run_callFunc_extern Try.func131 (by kernel_rfl) (by kernel_rfl) (by kernel_rfl) (e := add64Entry) (by kernel_rfl), run_add64 x y c (by omega) (by omega) (by omega) (by omega)]
  simp only [Result.andThen]
  congr 5 <;> omega

set_option maxRecDepth 100000 in
set_option maxHeartbeats 1000000 in
theorem mul64_any (x y : Nat) (hx : x < 18446744073709551616) (hy : y < 18446744073709551616) (w : World) :
    Calls Try.prog 82 #[.int .u64 x, .int .u64 y] w fun e w' => e = .returned (.tuple #[.int .u64 ((x * y / 18446744073709551616 : Nat) : Int), .int .u64 ((x * y % 18446744073709551616 : Nat) : Int)]) ∧ w = w' := by
  obtain ⟨bd, bt, bw, hhi⟩ := Lib.mul64_hi x y hx hy
  have ba := Lib.half_mul_le (a := x / 4294967296) (b := y / 4294967296) (by omega) (by omega)
  have bb := Lib.half_mul_le (a := x / 4294967296) (b := y % 4294967296) (by omega) (by omega)
  have bc := Lib.half_mul_le (a := x % 4294967296) (b := y / 4294967296) (by omega) (by omega)
  have ba' : x / 4294967296 * (y / 4294967296) < 18446744073709551616 := by omega
  have bb' : x / 4294967296 * (y % 4294967296) < 18446744073709551616 := by omega
  have bc' : x % 4294967296 * (y / 4294967296) < 18446744073709551616 := by omega
  have bh1 : x / 4294967296 * (y / 4294967296) + (x / 4294967296 * (y % 4294967296) + x % 4294967296 * (y % 4294967296) / 4294967296) / 4294967296 < 18446744073709551616 := by omega
  have bh : x / 4294967296 * (y / 4294967296) + (x / 4294967296 * (y % 4294967296) + x % 4294967296 * (y % 4294967296) / 4294967296) / 4294967296 + ((x / 4294967296 * (y % 4294967296) + x % 4294967296 * (y % 4294967296) / 4294967296) % 4294967296 + x % 4294967296 * (y / 4294967296)) / 4294967296 < 18446744073709551616 := by omega
  go_enter Try.func82, Try.ntmps82
  go_wp2
  simp only [Mul64.maskN x hx, Mul64.maskN y hy, Mul64.divN, Mul64.mulN, Mul64.addN, Mul64.wrapN _ bd, Mul64.wrapN _ bb', Mul64.wrapN _ bt, Mul64.maskN _ bt, Mul64.wrapN _ bc', Mul64.wrapN _ bw, Mul64.wrapN _ ba', Mul64.wrapN _ bh1, Mul64.wrapN _ bh, Mul64.wrapM]
  rw [hhi]
  go_ret2
  exact ⟨rfl, rfl⟩

/-- The nodes, and the boxes of yield functions, lie as they lay. -/
def KeepT (W W' : World) : Prop := ∀ (k : Nat) (cs : Array Value) (t : TypeId), t = 194 ∨ t = 204 → W.heap[k]? = some (.cells cs t (0, 0)) → W'.heap[k]? = some (.cells cs t (0, 0))
theorem KeepT.refl (W : World) : KeepT W W := fun _ _ _ _ h => h
theorem KeepT.trans {A B C : World} (h : KeepT A B) (k : KeepT B C) : KeepT A C := fun i cs t ht hi => k i cs t ht (h i cs t ht hi)
theorem T.At.keep {t : T} {w w' : World} (h : t.At w) (hk : KeepT w w') : t.At w' := by
  induction t with
  | leaf => trivial
  | node g l x u r ihl ihr => exact ⟨hk _ _ _ (.inl rfl) h.1, ihl h.2.1, ihr h.2.2⟩
theorem KeepT.of_only {gs : List Nat} {A B : World} (h : Only gs A B) (ho : ∀ k, k ∈ gs → ∀ (cs : Array Value) (t : TypeId), A.heap[k]? = some (.cells cs t (0, 0)) → t ≠ 194 ∧ t ≠ 204) : KeepT A B := by
  intro k cs t ht hk
  refine (h.block k (heap_lt hk) (fun hm => ?_)).trans hk
  have := ho k hm cs t hk
  rcases ht with rfl | rfl
  · exact this.1 rfl
  · exact this.2 rfl

/-- How the call of a visit ends. -/
def Visited (J Jx : Items → World → Prop) (pre : Items) (p : Int × Nat) (W : World) (e : Ending) (W' : World) : Prop :=
  (e = .returned (.bool true) ∧ J (pre ++ [p]) W' ∧ KeepT W W') ∨ (e = .returned (.bool false) ∧ Jx (pre ++ [p]) W')
def Walked (J Jx : Items → World → Prop) (pre its : Items) (W : World) (e : Ending) (W' : World) : Prop :=
  (e = .returned (.bool true) ∧ J (pre ++ its) W' ∧ KeepT W W') ∨ (e = .returned (.bool false) ∧ ∃ q, q <+: its ∧ Jx (pre ++ q) W')

set_option maxRecDepth 100000 in
set_option maxHeartbeats 2000000 in
theorem walk_any (K : Nat) (hK : Goes K) (env : Array Value) (L : Items) (J Jx : Items → World → Prop)
    (hV : ∀ g l x u r pre post W, L = pre ++ (x, u) :: post → J pre W → (T.node g l x u r).At W → Calls Try.prog K (#[.pointer (some ⟨g, 0, none⟩)] ++ env) W (Visited J Jx pre (x, u) W))
    (t : T) : ∀ (pre post : Items) (W : World), L = pre ++ (t.items ++ post) → t.At W → J pre W →
      Calls Try.prog 129 #[t.ptr, .func (.func K) #[] env] W (Walked J Jx pre t.items W) := by
  induction t with
  | leaf =>
    intro pre post W _ _ hJ
    show Calls Try.prog 129 #[.pointer none, .func (.func K) #[] env] W _
    clear hK
    go_enter Try.func129, Try.ntmps129
    go_wp2_with fail
    go_ret
    exact .inl ⟨rfl, by simpa [T.items] using hJ, KeepT.refl _⟩
  | node g l x u r ihl ihr =>
    intro pre post W hL hA hJ
    have hA2 := hA
    obtain ⟨h1, h2, h3⟩ := hA
    have hL1 : L = pre ++ (l.items ++ ((x, u) :: r.items ++ post)) := by rw [hL]; simp [T.items]
    have hL2 : L = (pre ++ l.items) ++ (x, u) :: (r.items ++ post) := by rw [hL]; simp [T.items]
    have hL3 : L = (pre ++ l.items ++ [(x, u)]) ++ (r.items ++ post) := by rw [hL]; simp [T.items]
    have C1 := Lib.hid ((ihl pre ((x, u) :: r.items ++ post) W hL1 h2 hJ))
    have C2 := Lib.hid (fun W1 (hk : KeepT W W1) (hj : J (pre ++ l.items) W1) => hV g l x u r (pre ++ l.items) (r.items ++ post) W1 hL2 hj (hA2.keep hk))
    have C3 := Lib.hid (fun W2 (hk : KeepT W W2) (hj : J (pre ++ l.items ++ [(x, u)]) W2) => ihr (pre ++ l.items ++ [(x, u)]) post W2 hL3 (h3.keep hk) hj)
    have c0 := cell_of_heap (i := 0) h1 rfl
    have HG := Lib.hid h1
    unfold Goes at hK
    replace c0 : W.cell? ⟨g, 0, none⟩ = some l.ptr := c0
    clear ihl ihr hL hA2 h1 h2 h3 hJ hV hL1 hL2 hL3
    show Calls Try.prog 129 #[.pointer (some ⟨g, 0, none⟩), .func (.func K) #[] env] W _
    go_enter Try.func129, Try.ntmps129
    go_wp2_with fail
    refine C1.out.mono ?_
    rintro e W1 (⟨rfl, hj1, hk1⟩ | ⟨rfl, q, hq, hx⟩)
    · have C2' := Lib.hid (C2.out W1 hk1 hj1)
      have HK1 := Lib.hid hk1
      clear hj1 hk1 C2 C1
      go_wp2_with fail
      refine C2'.out.mono ?_
      rintro e W2 (⟨rfl, hj2, hk2⟩ | ⟨rfl, hx⟩)
      · have C3' := Lib.hid (C3.out W2 (HK1.out.trans hk2) hj2)
        have c1 := cell_of_heap (i := 1) (hk2 g _ _ (.inl rfl) (HK1.out g _ _ (.inl rfl) HG.out)) rfl
        replace c1 : W2.cell? ⟨g, 1, none⟩ = some r.ptr := c1
        have HK2 := Lib.hid hk2
        clear hj2 hk2 C3 C2'
        go_wp2_with fail
        refine C3'.out.mono ?_
        rintro e W3 (⟨rfl, hj3, hk3⟩ | ⟨rfl, q, hq, hx⟩)
        · go_wp2_with fail
          go_ret
          exact .inl ⟨rfl, by simpa [T.items] using hj3, (HK1.out.trans HK2.out).trans hk3⟩
        · go_wp2_with fail
          go_ret
          obtain ⟨z, hz⟩ := hq
          exact .inr ⟨rfl, l.items ++ (x, u) :: q, ⟨z, by simp [T.items, ← hz]⟩, by simpa using hx⟩
      · go_wp2_with fail
        go_ret
        exact .inr ⟨rfl, l.items ++ [(x, u)], ⟨r.items, by simp [T.items]⟩, by simpa using hx⟩
    · go_wp2_with fail
      go_ret
      exact .inr ⟨rfl, q, hq.trans (by simp [T.items]), hx⟩
end Go.Proofs.Ytbafacdknaopjaa
