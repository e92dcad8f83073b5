import Derived.Test.YtipgbbhgmoehfaaDoorYRA
import Derived.Test.YtipgbbhgmoehfaaDoorZ9
import Derived.Test.YtipgbbhgmoehfaaDoorYCK
/-
  linkage: Check, mixer, less, the clusters' memory, distance.
-/
namespace Go.Proofs.YtipgbbhgmoehfaaDoor
open Go.RowKit Go.Shelf
attribute [local go_sem] Oper.semAt_some
set_option linter.unusedSimpArgs false
set_option linter.unusedVariables false
set_option linter.unusedSectionVars false

/-- A matrix of distances. -/
structure MatOk (n : Nat) (D : Nat → Nat → Int) : Prop where
  zero : ∀ u, D u u = 0
  sym : ∀ u v, D u v = D v u
  big : ∀ u v, u < n → v < n → 0 ≤ D u v ∧ D u v ≤ 1099511627776
def matF (n : Nat) (D : Nat → Nat → Int) : Nat → Int := fun i => D (i / n) (i % n)
theorem matF_at {n : Nat} {D : Nat → Nat → Int} {a b : Nat} (hb : b < n) : matF n D (a * n + b) = D a b := by
  have hn : 0 < n := by omega
  unfold matF
  rw [show (a * n + b) / n = a by rw [Nat.mul_comm, Nat.mul_add_div hn, Nat.div_eq_of_lt hb]; omega, show (a * n + b) % n = b by rw [Nat.mul_comm, Nat.mul_add_mod, Nat.mod_eq_of_lt hb]]
set_option maxRecDepth 100000 in
set_option maxHeartbeats 4000000 in
theorem Check_any {w : World} {n B cp : Nat} {D : Nat → Nat → Int} (hn : n ≤ 128) (hD : MatOk n D) (hR : RowZ w 2 B (n * n) (matF n D)) :
    Calls Tryd.prog 15 #[.int .i64 n, .slice (some ⟨B, 0, none⟩) (n * n) cp] w fun e w' => e = .returned (.int .i64 0) ∧ Only [] w w' := by
  have HR := Lib.hid hR
  have HD := Lib.hid hD
  obtain ⟨nn, hnn⟩ : ∃ nn, n * n = nn := ⟨_, rfl⟩
  have hnb : nn ≤ 16384 := by
    have := Nat.mul_le_mul hn hn
    omega
  have hm1 : (n : Int) * (n : Int) = (nn : Int) := by rw [← hnn]; simp
  rw [hnn] at HR ⊢
  clear hR hD
  go_enter Tryd.func15, Tryd.ntmps15
  go_wp2_with fail
  go_loopw [24] (fun y wr => ∃ U : Nat, U ≤ n ∧ y = .int .i64 U ∧ Hid (Only [] w wr)) (fun y _ => n - (intOf y).toNat)
  case atStart => exact ⟨0, Nat.zero_le _, rfl, Lib.hid (Only.refl _ _)⟩
  case round =>
    obtain ⟨U, hU, rfl, HO⟩ := hrel
    by_cases hlU : U < n
    · obtain ⟨i1, hi1⟩ : ∃ i1, U * n = i1 := ⟨_, rfl⟩
      have hm2 : (U : Int) * (n : Int) = (i1 : Int) := by rw [← hi1]; simp
      have l1 := mat_lt hlU hlU
      rw [hnn, hi1] at l1
      have c1 := (HR.out.only HO.out (by simp)).cell l1
      rw [← hi1, matF_at hlU, HD.out.zero, hi1] at c1
      have r1 : ((i1 : Int) + (U : Int)).toNat = i1 + U := by omega
      have r2 : (i1 : Int) + (U : Int) < (nn : Int) := by omega
      have HI := Lib.hid hi1
      clear hi1
      go_wp2_with fail
      go_loopw [37] (fun y wr => ∃ V : Nat, V ≤ U ∧ y = .int .i64 V ∧ Hid (Only [] w wr)) (fun y _ => U - (intOf y).toNat)
      case atStart => exact ⟨0, Nat.zero_le _, rfl, by first | exact HO | exact Lib.hid (HO.out.drewN 1)⟩
      case round =>
        clear HO c1
        obtain ⟨V, hV, rfl, HO⟩ := hrel
        by_cases hlV : V < U
        · obtain ⟨i2, hi2⟩ : ∃ i2, V * n = i2 := ⟨_, rfl⟩
          have hm3 : (V : Int) * (n : Int) = (i2 : Int) := by rw [← hi2]; simp
          have hi1 := HI.out
          have l2 := mat_lt hlU (show V < n by omega)
          have l3 := mat_lt (show V < n by omega) hlU
          rw [hnn] at l2 l3
          rw [hi1] at l2
          rw [hi2] at l3
          have c1 := (HR.out.only HO.out (by simp)).cell l2
          have c2 := (HR.out.only HO.out (by simp)).cell l3
          rw [← hi1, matF_at (by omega), HD.out.sym] at c1
          rw [← hi2, matF_at hlU] at c2
          rw [hi1] at c1
          rw [hi2] at c2
          obtain ⟨dd, hdd⟩ : ∃ dd, D V U = dd := ⟨_, rfl⟩
          rw [hdd] at c1 c2
          have r3 : ((i1 : Int) + (V : Int)).toNat = i1 + V := by omega
          have r4 : (i1 : Int) + (V : Int) < (nn : Int) := by omega
          have r5 : ((i2 : Int) + (U : Int)).toNat = i2 + U := by omega
          have r6 : (i2 : Int) + (U : Int) < (nn : Int) := by omega
          clear hi1 hi2 hdd
          go_wp2_with fail
          go_quiet (fail)
          go_wp2_with fail
          exact ⟨⟨V + 1, by omega, by go_num, Lib.hid (HO.out.drewN _)⟩, by simp [intOf]; omega⟩
        · obtain rfl : V = U := by omega
          go_wp2_with fail
          exact ⟨⟨V + 1, by omega, by go_num, HO⟩, by simp [intOf]; omega⟩
    · obtain rfl : U = n := by omega
      go_wp2_with fail
      go_loopw [61] (fun y wr => ∃ i : Nat, i ≤ nn ∧ y = .int .i64 i ∧ Hid (Only [] w wr)) (fun y _ => nn - (intOf y).toNat)
      case atStart => exact ⟨0, Nat.zero_le _, rfl, HO⟩
      case round =>
        clear HO
        obtain ⟨i, hi, rfl, HO⟩ := hrel
        by_cases hlt : i < nn
        · have c1 := (HR.out.only HO.out (by simp)).cell hlt
          obtain ⟨s1, s2, s3⟩ := mat_split (show i < U * U by omega)
          have hb := HD.out.big _ _ s1 s2
          obtain ⟨dd, hdd⟩ : ∃ dd, matF U D i = dd := ⟨_, rfl⟩
          rw [hdd] at c1
          have hb2 : 0 ≤ dd ∧ dd ≤ 1099511627776 := hdd ▸ hb
          have q1 : ¬ dd < 0 := by omega
          have q2 : ¬ 1099511627776 < dd := by omega
          clear hdd hb s1 s2 s3
          go_wp2_with fail
          exact ⟨⟨i + 1, by omega, by go_num, HO⟩, by simp [intOf]; omega⟩
        · obtain rfl : i = nn := by omega
          go_wp2_with fail
          go_ret
          exact ⟨rfl, HO.out⟩
set_option maxRecDepth 100000 in
theorem mixer_any (w : World) : Calls Tryd.prog 14 #[.int .i64 1] w fun e w' => e = .returned (.func (.func 29) #[] #[]) ∧ w' = w := by
  go_enter Tryd.func14, Tryd.ntmps14
  go_wp2_with fail
  go_ret
  exact ⟨rfl, rfl⟩
set_option maxRecDepth 100000 in
theorem mixer1_any (a b : Int) (w : World) : Calls Tryd.prog 29 #[.int .i64 a, .int .i64 b] w fun e w' => e = .returned (.int .i64 (min a b)) ∧ w' = w := by
  go_enter Tryd.func29, Tryd.ntmps29
  go_wp2_with fail
  go_ret
  exact ⟨rfl, rfl⟩
set_option maxRecDepth 100000 in
set_option maxHeartbeats 1000000 in
theorem less_any (a b : Nat) (ha : a < 9223372036854775808) (hb : b < 9223372036854775808) (w : World) :
    Calls Tryd.prog 18 #[.agg #[.int .i64 a, .int .i64 1], .agg #[.int .i64 b, .int .i64 1]] w fun e w' => e = .returned (.bool (decide (a < b))) ∧ Only [] w w' := by
  have CC := Lib.hid (fun W => Compare_any a b ha hb W)
  have hc : (cmpI a b < 0) = (a < b) := by
    unfold cmpI
    split
    · simp; assumption
    · split
      · simp; omega
      · simp; omega
  obtain ⟨z, hz⟩ : ∃ z, cmpI a b = z := ⟨_, rfl⟩
  rw [hz] at CC hc
  have hc2 : decide (z < 0) = decide (a < b) := by simp [hc]
  have HC := Lib.hid hc2
  clear hz ha hb hc hc2
  go_enter Tryd.func18, Tryd.ntmps18
  go_wp2_with fail
  refine (CC.out _).mono ?_
  rintro e w' ⟨rfl, hO⟩
  have HO := Lib.hid ((((Only.refl [] w).alloc (.cells #[.int .i64 a, .int .i64 1] 44)).alloc (.cells #[.int .i64 b, .int .i64 1] 44)).trans hO)
  clear hO CC
  go_wp2_with fail
  go_ret
  exact ⟨by rw [← HC.out]; rfl, HO.out⟩

end Go.Proofs.YtipgbbhgmoehfaaDoor
