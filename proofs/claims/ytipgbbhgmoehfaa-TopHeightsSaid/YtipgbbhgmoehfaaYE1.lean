import Derived.Test.YtipgbbhgmoehfaaYP
import Derived.Test.YtipgbbhgmoehfaaYM
/-
  Chapter 27: the law's helper drawn.
-/
namespace Go.Proofs.Ytipgbbhgmoehfaa
open Go.RowKit
attribute [local go_sem] Oper.semAt_some
set_option linter.unusedSimpArgs false
set_option linter.unusedSectionVars false

/-- One number more. -/
def upd (f : Nat → Int) (k : Nat) (y : Int) : Nat → Int := fun j => if j = k then y else f j
theorem upd_at (f : Nat → Int) (k : Nat) (y : Int) : upd f k y k = y := if_pos rfl
theorem upd_lt {f : Nat → Int} {k j : Nat} {y : Int} (h : j < k) : upd f k y j = f j := if_neg (by omega)
theorem edgesL_congr {u v x u' v' x' : Nat → Int} {k : Nat} (h : ∀ j, j < k → u j = u' j ∧ v j = v' j ∧ x j = x' j) : edgesL u v x k = edgesL u' v' x' k := by
  induction k with
  | zero => rfl
  | succ k ih =>
    obtain ⟨h1, h2, h3⟩ := h k (by omega)
    rw [edgesL_succ, edgesL_succ, ih fun j hj => h j (by omega), h1, h2, h3]
theorem edgesL_upd (u v x : Nat → Int) (k : Nat) (a b c : Int) : edgesL (upd u k a) (upd v k b) (upd x k c) (k + 1) = edgesL u v x k ++ [.int .i64 a, .int .i64 b, .int .i64 c] := by
  rw [edgesL_succ, upd_at, upd_at, upd_at, edgesL_congr (u' := u) (v' := v) (x' := x) fun j hj => ⟨upd_lt hj, upd_lt hj, upd_lt hj⟩]
/-- The edges of a drawn graph. -/
def GoodD (m : Nat) (U V X : Nat → Int) (k : Nat) : Prop := ∀ j, j < k → GoodE m U V j ∧ 0 ≤ X j ∧ X j < 20
theorem GoodD.upd {m : Nat} {U V X : Nat → Int} {k : Nat} {a b c : Int} (h : GoodD m U V X k) (ha : 0 ≤ a ∧ a < m) (hb : 0 ≤ b ∧ b < m) (hab : a ≠ b) (hc : 0 ≤ c ∧ c < 20) : GoodD m (upd U k a) (upd V k b) (upd X k c) (k + 1) := by
  intro j hj
  rcases Nat.lt_or_eq_of_le (Nat.le_of_lt_succ hj) with hl | rfl
  · have := h j hl
    unfold GoodE InE at this ⊢
    rw [upd_lt hl, upd_lt hl, upd_lt hl]
    exact this
  · unfold GoodE InE
    rw [upd_at, upd_at, upd_at]
    exact ⟨⟨⟨ha, hb⟩, hab⟩, hc⟩
theorem GoodD.wf {m : Nat} {U V X : Nat → Int} {k : Nat} (h : GoodD m U V X k) (hm : m ≤ 60) : ∀ j, j < k → (Lit.int .i64 (U j)).wf = true ∧ (Lit.int .i64 (V j)).wf = true ∧ (Lit.int .i64 (X j)).wf = true := by
  intro j hj
  have := h j hj
  unfold GoodE InE at this
  exact ⟨wf_of (by omega) (by omega), wf_of (by omega) (by omega), wf_of (by omega) (by omega)⟩
theorem byte_nat {n : Int} (h : (Lit.int .u8 n).wf = true) : ∃ k : Nat, n = k ∧ k ≤ 255 := by
  have : 0 ≤ n ∧ n ≤ 255 := by simpa [Lit.wf, IntKind.min, IntKind.max, IntKind.bits, IntKind.signed] using h
  exact ⟨n.toNat, by omega, by omega⟩
/-- A drawn graph. -/
def DrawnPost (w : World) (e : Ending) (w' : World) : Prop := ∃ (m k : Nat) (A : Option Addr) (c : Nat) (U V X : Nat → Int), e = .returned (.tuple #[.int .i64 m, .slice A k c]) ∧ m ≤ 60 ∧ k ≤ 200 ∧ GoodD m U V X k ∧ EdgesIn w' A k U V X ∧ Only [] w w'
set_option maxRecDepth 100000 in
set_option maxHeartbeats 4000000 in
theorem drawn_any (n : Int) (hn : (Lit.int .u8 n).wf = true) (A : Option Addr) (len cap : Nat) (u v x : Nat → Int) (w : World) (h : TripsIn w .u8 A len u v x) :
    Calls Try.prog 6 #[.int .u8 n, .slice A len cap] w (DrawnPost w) := by
  obtain ⟨i1, gi, gz0, gz1, gz2⟩ := info_parts infoEdge
  have HE := Lib.hid h
  have hln := h.len
  unfold maxLen at hln
  clear h
  obtain ⟨n, rfl, hn1⟩ := byte_nat hn
  clear hn
  obtain ⟨m, hm⟩ : ∃ m, n % 61 = m := ⟨_, rfl⟩
  have hm2 : m ≤ 60 := by omega
  have e0 : (n : Int) % 61 = (m : Int) := by omega
  go_enter Try.func6, Try.ntmps6
  go_wp2_with fail
  rw [e0]
  clear e0 hm hn1
  go_loopw [7, 8] (fun vo i wr => ∃ j k U V X, j ≤ len ∧ j ≤ 200 ∧ k ≤ j ∧ i = .int .i64 (j : Nat) ∧ Hid (wr.ownsRow w.heap.size 43 3 vo k (edgesL U V X k)) ∧ Hid (GoodD m U V X k) ∧ Hid (Below w.heap.size w wr)) (fun _ i _ => len - (intOf i).toNat)
  case atStart => exact ⟨0, 0, fun _ => 0, fun _ => 0, fun _ => 0, Nat.zero_le _, Nat.zero_le _, Nat.zero_le _, rfl, Lib.hid (World.ownsRow_nil _ _ _ _), Lib.hid (fun j hj => by omega), Lib.hid (Below.refl _ _)⟩
  case round =>
    obtain ⟨j, k, U, V, X, hj, hj2, hkj, rfl, HR, HG, HB⟩ := hrel
    by_cases hlt : j < len ∧ j < 200 ∧ 0 < m
    · obtain ⟨hlt, h200, hm0⟩ := hlt
      have hb := HB.out
      have hrow := HR.out
      have hsz := hb.size
      obtain ⟨b, off, rfl, hbl, _, _, _⟩ := HE.out.cell hlt
      obtain ⟨f0, f1, f2⟩ := HE.out.wf j hlt
      obtain ⟨a, ha, ha1⟩ := byte_nat f0
      obtain ⟨d, hd, hd1⟩ := byte_nat f1
      obtain ⟨y, hy, hy1⟩ := byte_nat f2
      have HC := Lib.hid (show ∀ W, Below w.heap.size w W → W.cell? ⟨b, off + j * 3, none⟩ = some (.int .u8 a) ∧ W.cell? ⟨b, off + j * 3 + 1, none⟩ = some (.int .u8 d) ∧ W.cell? ⟨b, off + j * 3 + 2, none⟩ = some (.int .u8 y) from fun W hW => by
        obtain ⟨b', off', hA, _, g0, g1, g2⟩ := (HE.out.only (only_of_below' hW)).cell hlt
        cases hA
        rw [← ha, ← hd, ← hy]
        exact ⟨g0, g1, g2⟩)
      obtain ⟨e0, e1, e2⟩ := HC.out _ hb
      clear f0 f1 f2 ha hd hy
      have hm00 : ¬ (m : Int) = 0 := by omega
      have hmp : (0 : Int) < (m : Int) := by omega
      obtain ⟨a', ha'⟩ : ∃ a', a % m = a' := ⟨_, rfl⟩
      obtain ⟨d', hd'⟩ : ∃ d', d % m = d' := ⟨_, rfl⟩
      have q1 : (a : Int) % (m : Int) = a' := by rw [← ha', Int.natCast_emod]
      have q2 : (d : Int) % (m : Int) = d' := by rw [← hd', Int.natCast_emod]
      have la : a' < m := ha' ▸ Nat.mod_lt _ hm0
      have ld : d' < m := hd' ▸ Nat.mod_lt _ hm0
      clear ha' hd'
      go_wp2_with fail
      go_quiet (fail)
      simp only [q1, q2]
      clear q1 q2 e0 e1 e2
      obtain ⟨W1, hW1⟩ : ∃ W1, wr.drewN nq = W1 := ⟨_, rfl⟩
      have hOn : Only [] wr W1 := hW1 ▸ (Only.refl [] wr).drewN nq
      rw [hW1]
      clear hW1
      replace hrow := (KeepC.of_only (b := 0) hOn).owns hrow
      replace hb := hb.trans (hOn.toBelow.mono hb.size)
      have hsz := hb.size
      clear hOn HR HB
      by_cases hne : a' = d'
      · subst hne
        have HR := Lib.hid hrow
        have HB := Lib.hid hb
        clear hrow hb
        go_wp2_with fail
        go_roundw
        case rel => exact ⟨j + 1, k, U, V, X, by omega, by omega, by omega, by go_num, HR, HG, HB⟩
        case measure => simp [intOf]; omega
      · have hne2 : ¬ (a' : Int) = (d' : Int) := by omega
        obtain ⟨y', hy'⟩ : ∃ y', y % 20 = y' := ⟨_, rfl⟩
        have ly : y' < 20 := hy' ▸ Nat.mod_lt _ (by omega)
        have hy2 : (y : Int) % 20 = (y' : Int) := by omega
        have hbne : ((a' : Int) != (d' : Int)) = true := by simpa using hne2
        obtain ⟨_, _, e2⟩ := HC.out _ hb
        have HG2 := Lib.hid (HG.out.upd (a := a') (b := d') (c := y') (by omega) (by omega) (by omega) (by omega))
        go_wp2_with (at_builtin; rw [hy2]; refine wpList_append_own _ rfl _ _ 23 rfl w.heap.size 43 i1 (.agg #[.int .i64 0, .int .i64 0, .int .i64 0]) 3 24 Try.underlying23 gi gz0 gz1 gz2 rfl (by decide) _ _ _ rfl (hrow.alloc _) ⟨W1.heap.size, 0, none⟩ 1 1 [.int .i64 a', .int .i64 d', .int .i64 y'] rfl rfl (cell_three_new _ _ _ _ _) (by simp [Value.oneCell']) (by unfold maxLen; omega) (by omega) (by simp; omega) ?_; intro v' w1 hown' hgrow _; have HN := Lib.hid (And.intro (show w1.ownsRow w.heap.size 43 3 v' (k + 1) (edgesL (upd U k a') (upd V k d') (upd X k y') (k + 1)) by rw [edgesL_upd]; exact hown') (below_append hb hrow hgrow)); clear hown' hgrow hrow hb)
        go_roundw
        case rel => exact ⟨j + 1, k + 1, _, _, _, by omega, by omega, by omega, by go_num, Lib.hid HN.out.1, HG2, Lib.hid HN.out.2⟩
        case measure => simp [intOf]; omega
    · have HP : Hid (DrawnPost w (.returned (.tuple #[.int .i64 m, u7])) wr) := Lib.hid (by
        obtain ⟨A', c', rfl, hE⟩ := edges_own HR.out (HG.out.wf hm2)
        exact ⟨m, k, A', c', U, V, X, rfl, hm2, by omega, HG.out, hE, only_of_below' HB.out⟩)
      by_cases h1 : j < len
      · by_cases h2 : j < 200
        · obtain rfl : m = 0 := by omega
          go_wp2_with fail
          go_ret2
          exact HP.out
        · obtain rfl : j = 200 := by omega
          go_wp2_with fail
          go_ret2
          exact HP.out
      · obtain rfl : j = len := by omega
        go_wp2_with fail
        go_ret2
        exact HP.out

end Go.Proofs.Ytipgbbhgmoehfaa
