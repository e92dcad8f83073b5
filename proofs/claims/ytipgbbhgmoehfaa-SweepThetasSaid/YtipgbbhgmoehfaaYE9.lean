import Derived.Test.YtipgbbhgmoehfaaYT7
import Derived.Test.YtipgbbhgmoehfaaYM5
import Derived.Test.YtipgbbhgmoehfaaYK5
import Derived.Test.YtipgbbhgmoehfaaYE3
/-
  For SweepThetas: Levels at a drawn graph, as cells; the graph up to a threshold and its row.
-/
namespace Go.Proofs.Ytipgbbhgmoehfaa
open Go.RowKit
attribute [local go_sem] Oper.semAt_some
set_option linter.unusedSimpArgs false
set_option linter.unusedSectionVars false

theorem Quads.congr {W : World} {A : Option Addr} {r : Nat} {t a b c t' a' b' c' : Nat → Int} (h : Quads W A r t a b c) (e : ∀ j, j < r → t j = t' j ∧ a j = a' j ∧ b j = b' j ∧ c j = c' j) : Quads W A r t' a' b' c' := fun h0 => by
  obtain ⟨g, hA, hc⟩ := h h0
  refine ⟨g, hA, fun j hj => ?_⟩
  obtain ⟨e1, e2, e3, e4⟩ := e j hj
  rw [← e1, ← e2, ← e3, ← e4]
  exact hc j hj
/-- The levels of a drawn graph, in whichever order by weight. -/
def DLevels (m k : Nat) (U V X : Nat → Int) (w : World) (e : Ending) (w' : World) : Prop := ∃ r A cp, e = .returned (.tuple #[.slice A r cp, .int .i64 0]) ∧ Only [] w w' ∧
  ∀ o, ByWeight k X o → (ends k X o k).length = r ∧ Quads w' A r (thAt k X o) (fun i => rA m (nat U) (nat V) o one (endAt k X o (i + 1))) (fun i => rB m (nat U) (nat V) o (endAt k X o (i + 1))) (fun i => rC m (nat U) (nat V) o one (endAt k X o (i + 1)))
theorem dlevels_any (m k : Nat) (A : Option Addr) (c : Nat) (U V X : Nat → Int) (w : World) (hm : m ≤ 60) (hk : k ≤ 200) (hG : GoodD m U V X k) (hE : EdgesIn w A k U V X) : Calls Try.prog 7 #[.int .i64 m, .slice A k c] w (DLevels m k U V X w) := by
  refine (Levels_any m A k c U V X w hE 0 (hG.code hm hk)).mono ?_
  rintro e w' (⟨h, _⟩ | ⟨_, o, vo, hb, rfl, hr, hO⟩)
  · exact absurd rfl h
  rw [show ((m : Int)).toNat = m from Int.toNat_natCast _, ← nat_eq, ← nat_eq, levW_eq hb] at hr
  obtain ⟨A', cp, rfl, hq⟩ := quads_own hr
  refine ⟨_, A', cp, rfl, hO, fun o2 hb2 => ?_⟩
  have hL := ends_lev hb2
  have hc := hL.count (ends_lev hb)
  refine ⟨hc, hq.congr fun j hj => ?_⟩
  have ht := (ends_lev hb).pt hL j hj (by omega)
  have hrow := level_row (p := nat U) (q := nat V) hb2 (i := j) (by omega)
  have e1 : thAt k X o2 j = X (o ((ends k X o k).getD j 0 - 1)) := ht.symm
  refine ⟨ht, ?_, ?_, ?_⟩
  · unfold rA
    rw [hrow, e1]
    rfl
  · unfold rB
    rw [hrow, e1]
    rfl
  · unfold rC
    rw [hrow, e1]
    rfl
/-- The graph up to the threshold of a level: its row is that of the level. -/
theorem dunder_any {m k G : Nat} {U V X : Nat → Int} {W : World} (hm : m ≤ 60) (hk : k ≤ 200) (hG : GoodD m U V X k) (h : GAt W G m k U V X) (th : Int) : Calls Try.prog 11 #[.pointer (some ⟨G, 0, none⟩), .int .i64 th] W fun e w' =>
    ∃ G', e = .returned (.pointer (some ⟨G', 0, none⟩)) ∧ Only [] W w' ∧ ∀ w1, Only [] w' w1 → ∀ o i, ByWeight k X o → i < (ends k X o k).length → thAt k X o i = th →
      Calls Try.prog 12 #[.pointer (some ⟨G', 0, none⟩)] w1 fun e w2 => e = .returned (.agg #[.int .i64 (rA m (nat U) (nat V) o one (endAt k X o (i + 1))), .int .i64 (rB m (nat U) (nat V) o (endAt k X o (i + 1))), .int .i64 (rC m (nat U) (nat V) o one (endAt k X o (i + 1)))]) ∧ Only [] w1 w2 := by
  have hpq : ∀ j, j < k → U j = nat U j ∧ V j = nat V j ∧ nat U j < m ∧ nat V j < m := fun j hj => by
    have h2 := (hG j hj).1
    unfold GoodE InE at h2
    unfold nat
    omega
  refine (Under_any th h (by omega) (by omega) hpq).mono ?_
  rintro e w' ⟨G', rfl, hg, hO⟩
  refine ⟨G', rfl, hO, fun w1 hO1 o i hb hi ht => ?_⟩
  have hR := GRow_any (p := fun j => nat U (sel (leL k X th) j)) (q := fun j => nat V (sel (leL k X th) j)) (hg.only hO1) (by omega) fun j hj => hpq _ (leL_mem (sel_at hj))
  rw [labK_sel, ← ht, ← level_row hb hi] at hR
  exact hR

end Go.Proofs.Ytipgbbhgmoehfaa
