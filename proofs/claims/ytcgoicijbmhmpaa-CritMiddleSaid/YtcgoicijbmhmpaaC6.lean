/-
  Where two averages cross: the plain law, and the walk of the program.
-/
import Derived.Test.YtcgoicijbmhmpaaC5
import Derived.Deep.RegionHeld3
namespace Go.Proofs.Ytcgoicijbmhmpaa
open Go.RowKit Go.Fl Go.Deep Go.Shelf

def sgn (x y : Nat) : Int := if flt x y then -1 else if fgt x y then 1 else 0

abbrev SgS (W : World) (B1 B2 : Nat) (A B : Option Addr) (n c m d : Nat) (w' : World) : Prop := w'.cell? ⟨B1, 0, none⟩ = some (.slice A n c) ∧ w'.cell? ⟨B2, 0, none⟩ = some (.slice B m d) ∧ Below W.heap.size W w'

theorem sgs_step {W W1 W2 : World} {B1 B2 : Nat} {A B : Option Addr} {n c m d : Nat} (h1 : B1 < W.heap.size) (h2 : B2 < W.heap.size) (hS : SgS W B1 B2 A B n c m d W1) (hb : Below W1.heap.size W1 W2) : SgS W B1 B2 A B n c m d W2 := by
  obtain ⟨s1, s2, s3⟩ := hS
  have hz := s3.size
  exact ⟨(hb.cell (p := ⟨B1, 0, none⟩) (Nat.lt_of_lt_of_le h1 hz)).trans s1, (hb.cell (p := ⟨B2, 0, none⟩) (Nat.lt_of_lt_of_le h2 hz)).trans s2, s3.trans (hb.mono hz)⟩
theorem sgs_mono {W W1 : World} {B1 B2 : Nat} {A B : Option Addr} {n c m d fn x : Nat} {args : Array Value} (h1 : B1 < W.heap.size) (h2 : B2 < W.heap.size)
    (C : Calls Try.prog fn args W1 fun e w' => e = .returned (.float .f64 x) ∧ Below W1.heap.size W1 w') (hS : SgS W B1 B2 A B n c m d W1) :
    Calls Try.prog fn args W1 fun e w' => e = .returned (.float .f64 x) ∧ SgS W B1 B2 A B n c m d w' :=
  C.mono fun _ _ h => ⟨h.1, sgs_step h1 h2 hS h.2⟩

set_option maxRecDepth 100000 in
set_option maxHeartbeats 1000000 in
theorem sign_any (B1 B2 : Nat) (A B : Option Addr) (n c m d p : Nat) (f g : Nat → Nat) (W : World) (hB1 : W.cell? ⟨B1, 0, none⟩ = some (.slice A n c)) (hB2 : W.cell? ⟨B2, 0, none⟩ = some (.slice B m d))
    (h : ListIn W A n f) (hg : ListIn W B m g) (hp : p < 2 ^ 64) (hl : listB n f = true) (hl2 : listB m g = true) (hpr : prob p = true) (hb1 : B1 < W.heap.size) (hb2 : B2 < W.heap.size) :
    Calls Try.prog 80 #[.float .f64 p, .pointer (some ⟨B1, 0, none⟩), .pointer (some ⟨B2, 0, none⟩)] W fun e w' => e = .returned (.int .i64 (sgn (avg f (n - 1) (absb p)) (avg g (m - 1) (absb p)))) ∧ Below W.heap.size W w' := by
  have C1 := Lib.hid (fun W1 (hS : SgS W B1 B2 A B n c m d W1) => sgs_mono hb1 hb2 (cavg_any A n c p f W1 (h.below hS.2.2) hp hl hpr) hS)
  have C2 := Lib.hid (fun W1 (hS : SgS W B1 B2 A B n c m d W1) => sgs_mono hb1 hb2 (cavg_any B m d p g W1 (hg.below hS.2.2) hp hl2 hpr) hS)
  have hBel := Below.refl W.heap.size W
  clear h hg hl hl2 hpr
  obtain ⟨x, hx⟩ : ∃ x, x = avg f (n - 1) (absb p) := ⟨_, rfl⟩
  obtain ⟨y, hy⟩ : ∃ y, y = avg g (m - 1) (absb p) := ⟨_, rfl⟩
  rw [← hx] at C1 ⊢
  rw [← hy] at C2 ⊢
  clear hx hy
  go_enter Try.func80, Try.ntmps80
  go_wp2
  go_region_held3 (fun w' => w'.cell? ⟨B1, 0, none⟩ = some (.slice A n c) ∧ w'.cell? ⟨B2, 0, none⟩ = some (.slice B m d) ∧ Below W.heap.size W w') (first | exact ⟨hB1, hB2, hBel⟩ | exact ⟨hB1, hB2, hBel.drew⟩ | assumption)
    (first
      | (go_at_call_of 76 (Value.slice A n c); refine (C1.out _ (by assumption)).mono ?_; rintro e w' ⟨rfl, hS9⟩)
      | (go_at_call_of 76 (Value.slice B m d); refine (C2.out _ (by assumption)).mono ?_; rintro e w' ⟨rfl, hS9⟩))
  have hE := Lib.hid hS9.2.2
  clear hS9 C1 C2
  cases c1 : flt x y with
  | true =>
    have ho : (FloatKind.f64.format.order x y == some Ordering.lt) = true := c1
    have hs := Lib.hid (show sgn x y = -1 by unfold sgn; rw [c1]; rfl)
    clear c1
    go_wp2
    go_ret
    exact ⟨by rw [hs.out]; rfl, hE⟩
  | false =>
    have ho : (FloatKind.f64.format.order x y == some Ordering.lt) = false := c1
    have h1 := Lib.hid c1
    clear c1
    cases c2 : fgt x y with
    | true =>
      have ho2 : (FloatKind.f64.format.order x y == some Ordering.gt) = true := c2
      have hs := Lib.hid (show sgn x y = 1 by unfold sgn; rw [h1.out, c2]; rfl)
      clear c2
      go_wp2
      go_ret
      exact ⟨by rw [hs.out]; rfl, hE⟩
    | false =>
      have ho2 : (FloatKind.f64.format.order x y == some Ordering.gt) = false := c2
      have hs := Lib.hid (show sgn x y = 0 by unfold sgn; rw [h1.out, c2]; rfl)
      clear c2
      go_wp2
      go_ret
      exact ⟨by rw [hs.out]; rfl, hE⟩

/-- How the averages compare at the points of a grid. -/
def sgs (f g : Nat → Nat) (n m s x : Nat) : Int := sgn (avs f n s x) (avs g m s x)
theorem sgnp_any (B1 B2 : Nat) (A B : Option Addr) (n c m d s x : Nat) (f g : Nat → Nat) (W : World) (hB1 : W.cell? ⟨B1, 0, none⟩ = some (.slice A n c)) (hB2 : W.cell? ⟨B2, 0, none⟩ = some (.slice B m d))
    (h : ListIn W A n f) (hg : ListIn W B m g) (hl : listB n f = true) (hl2 : listB m g = true) (h1 : 1 ≤ s) (h2 : s ≤ 1000) (hb1 : B1 < W.heap.size) (hb2 : B2 < W.heap.size) :
    Calls Try.prog 80 #[.float .f64 (pt s x), .pointer (some ⟨B1, 0, none⟩), .pointer (some ⟨B2, 0, none⟩)] W fun e w' => e = .returned (.int .i64 (sgs f g n m s x)) ∧ Below W.heap.size W w' :=
  sign_any B1 B2 A B n c m d (pt s x) f g W hB1 hB2 h hg (pt_prob h1 h2).2 hl hl2 (pt_prob h1 h2).1 hb1 hb2
theorem sgn0_any (B1 B2 : Nat) (A B : Option Addr) (n c m d s : Nat) (f g : Nat → Nat) (W : World) (hB1 : W.cell? ⟨B1, 0, none⟩ = some (.slice A n c)) (hB2 : W.cell? ⟨B2, 0, none⟩ = some (.slice B m d))
    (h : ListIn W A n f) (hg : ListIn W B m g) (hl : listB n f = true) (hl2 : listB m g = true) (h1 : 1 ≤ s) (h2 : s ≤ 1000) (hb1 : B1 < W.heap.size) (hb2 : B2 < W.heap.size) :
    Calls Try.prog 80 #[.float .f64 0, .pointer (some ⟨B1, 0, none⟩), .pointer (some ⟨B2, 0, none⟩)] W fun e w' => e = .returned (.int .i64 (sgs f g n m s 0)) ∧ Below W.heap.size W w' := by
  have h0 := sgnp_any B1 B2 A B n c m d s 0 f g W hB1 hB2 h hg hl hl2 h1 h2 hb1 hb2
  rw [pt_zero h1 h2] at h0
  exact h0
end Go.Proofs.Ytcgoicijbmhmpaa
