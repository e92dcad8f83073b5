/-
  Update as a whole; what it makes of the numbers; the closures.
-/
import Derived.Test.YtbafacdknaopjaaA7
namespace Go.Proofs.Ytbafacdknaopjaa
open Go.RowKit
set_option linter.unusedSimpArgs false

theorem update_any (x : Int) (f : Nat → Nat) (K Bx : Nat) (hK : Goes K) (t : T) (hnd : t.blocks.Nodup) (hs : t.sz + f (t.cnt x) ≤ 2 ^ 60) (hd : t.ds + 1 ≤ 2 ^ 60) : UpdOk x f K Bx t := by
  induction t with
  | leaf =>
    intro w _ hm
    by_cases h0 : f 0 = 0
    · refine (update_leaf0 x K Bx w hK (by simpa [T.cnt, h0] using hm)).mono ?_
      rintro e w' ⟨rfl, rfl⟩
      simp only [T.upd, if_pos h0]
      exact ⟨rfl, trivial, Only.refl _ _⟩
    · refine (update_leaf1 x K Bx (f 0) w hK (by omega) (by simp only [T.cnt, T.sz] at hs; omega) hm).mono ?_
      rintro e w' ⟨rfl, h1, h2⟩
      simp only [T.upd, if_neg h0]
      exact ⟨trivial, h1, h2⟩
  | node g l y u r ihl ihr =>
    intro w hw hm
    have hn := List.nodup_cons.1 hnd
    have hna := List.nodup_append.1 hn.2
    by_cases h1 : x < y
    · have e : (T.node g l y u r).cnt x = l.cnt x := by simp [T.cnt, h1]
      rw [e] at hm hs
      have := update_lt x y f K Bx g u l r w hw hnd h1 (by simp only [T.sz] at hs; omega) hd hm (ihl hna.1 (by simp only [T.sz] at hs; omega) (by simp only [T.ds] at hd; omega))
      simp only [T.upd, if_pos h1]
      exact this
    · by_cases h2 : y < x
      · have e : (T.node g l y u r).cnt x = r.cnt x := by simp [T.cnt, h1, h2]
        rw [e] at hm hs
        have := update_gt x y f K Bx g u l r w hw hnd h2 (by simp only [T.sz] at hs; omega) hd hm (ihr hna.2.1 (by simp only [T.sz] at hs; omega) (by simp only [T.ds] at hd; omega))
        simp only [T.upd, if_neg h1, if_pos h2]
        exact this
      · obtain rfl : x = y := by omega
        have e : (T.node g l x u r).cnt x = u := by simp [T.cnt]
        rw [e] at hm hs
        simp only [T.upd, if_neg h1]
        by_cases h0 : f u = 0
        · rw [h0] at hm
          rw [if_pos h0]
          exact update_eq0 x K Bx g u l r w hK hw hnd (by omega) (by omega) hm
        · rw [if_neg h0]
          exact update_eq1 x K Bx g u (f u) l r w hK hw hnd (by omega) (by simp only [T.sz] at hs ⊢; omega) (by omega) hm

theorem goes_add : Goes 137 := fun _ _ => by kernel_rfl
theorem goes_remove : Goes 136 := fun _ _ => by kernel_rfl

set_option maxRecDepth 100000 in
theorem makes_add (Bx a k : Nat) (w : World) (hc : w.cell? ⟨Bx, 0, none⟩ = some (.int .i64 k)) (ha : a ≤ 2 ^ 60) (hk : k ≤ 2 ^ 60) : Makes 137 Bx a (a + k) w := by
  intro w' he
  have h1 := he.trans hc
  clear he hc
  have q : IntKind.i64.wrap ((a : Int) + (k : Int)) = (a : Int) + (k : Int) := IntWalk.i64_in _ (by omega)
  go_enter Try.func137, Try.ntmps137
  go_wp2
  go_ret
  exact ⟨by rw [Int.natCast_add]; rfl, rfl⟩

set_option maxRecDepth 100000 in
theorem makes_remove (Bx a k : Nat) (w : World) (hc : w.cell? ⟨Bx, 0, none⟩ = some (.int .i64 k)) (ha : a ≤ 2 ^ 60) (hk : k ≤ a) : Makes 136 Bx a (a - k) w := by
  intro w' he
  have h1 := he.trans hc
  clear he hc
  have q : IntKind.i64.wrap ((a : Int) - (k : Int)) = (a : Int) - (k : Int) := IntWalk.i64_in _ (by omega)
  go_enter Try.func136, Try.ntmps136
  go_wp2
  go_ret
  exact ⟨by rw [Int.ofNat_sub hk]; rfl, rfl⟩
end Go.Proofs.Ytbafacdknaopjaa
