/-
  The law's own helper unite.
-/
import Derived.Test.YtbafacdknaopjaaF5
import Derived.Deep.RegionHeld3
import Derived.IntWalk
namespace Go.Proofs.Ytbafacdknaopjaa
open Go.RowKit
set_option linter.unusedSimpArgs false
set_option linter.unusedSectionVars false

theorem wf_u8 {n : Int} (h : (Lit.int .u8 n).wf = true) : 0 ≤ n ∧ n ≤ 255 := by simpa [Lit.wf, IntKind.min, IntKind.max, IntKind.bits, IntKind.signed] using h
/-- A list of pairs of numbers of one kind, as it lies in memory. -/
structure PairsIn (w : World) (k : IntKind) (A : Option Addr) (n : Nat) (f g : Nat → Int) : Prop where
  row : 0 < n → ∃ b off, A = some ⟨b, off, none⟩ ∧ b < w.heap.size ∧ ∀ j, j < n → w.cell? ⟨b, off + j * 2, none⟩ = some (.int k (f j)) ∧ w.cell? ⟨b, off + j * 2 + 1, none⟩ = some (.int k (g j))
  wf : ∀ j, j < n → (Lit.int k (f j)).wf = true ∧ (Lit.int k (g j)).wf = true
  len : n ≤ maxLen
theorem PairsIn.only {w w' : World} {k : IntKind} {A : Option Addr} {n : Nat} {f g : Nat → Int} (h : PairsIn w k A n f g) (hO : Only [] w w') : PairsIn w' k A n f g :=
  ⟨fun hn => by
    obtain ⟨b, off, hA, hb, hc⟩ := h.row hn
    exact ⟨b, off, hA, Nat.lt_of_lt_of_le hb hO.size, fun j hj => ⟨(World.cell?_of_block (w := w) (hO.block b hb (by simp))).trans (hc j hj).1, (World.cell?_of_block (w := w) (hO.block b hb (by simp))).trans (hc j hj).2⟩⟩, h.wf, h.len⟩
theorem PairsIn.cell {w : World} {k : IntKind} {A : Option Addr} {n : Nat} {f g : Nat → Int} (h : PairsIn w k A n f g) {j : Nat} (hj : j < n) : ∃ b off, A = some ⟨b, off, none⟩ ∧ w.cell? ⟨b, off + j * 2, none⟩ = some (.int k (f j)) ∧ w.cell? ⟨b, off + j * 2 + 1, none⟩ = some (.int k (g j)) := by
  obtain ⟨b, off, hA, _, hc⟩ := h.row (by omega)
  exact ⟨b, off, hA, hc j hj⟩

/-- What is done to a tally. -/
structure Moves (W : World) (F : List Nat) (W' : World) (F' : List Nat) : Prop where
  only : Only F W W'
  grew : Grew W F F'
theorem Moves.refl (W : World) (F : List Nat) : Moves W F W F := ⟨Only.refl _ _, fun _ h => .inl h⟩
theorem Moves.trans {A B C : World} {F G H : List Nat} (h : Moves A F B G) (k : Moves B G C H) : Moves A F C H := by
  refine ⟨h.only.to k.only fun i hi hlt => ?_, fun j hj => ?_⟩
  · rcases h.grew i hi with hf | hf
    · exact hf
    · omega
  · rcases k.grew j hj with hf | hf
    · exact h.grew j hf
    · exact .inr (Nat.le_trans h.only.size hf)
theorem Moves.quiet {A B C : World} {F G : List Nat} (h : Moves A F B G) (k : Only [] B C) : Moves A F C G := ⟨h.only.trans (k.mono fun _ m => by simp at m), h.grew⟩
theorem OwnTal.moves {w W W' : World} {F F' : List Nat} {A n : Nat} {lab lab' wt : Nat → Nat} (h : OwnTal w W F A n lab wt) (ht : TalAt W' F' A n lab' wt) (m : Moves W F W' F') : OwnTal w W' F' A n lab' wt := h.step ht m.only m.grew

/-- The unions that unite makes, in their order. -/
def pr (n : Nat) (f g : Nat → Int) (i : Nat) : Nat × Nat := ((f i % n).toNat, (g i % n).toNat)
def cntU (n m : Nat) : Nat := if n = 0 then 0 else min m 200
def prs (n m : Nat) (f g : Nat → Int) : List (Nat × Nat) := (List.range (cntU n m)).map (pr n f g)
def idxU (c : Nat) (back : Bool) (k : Nat) : Nat := if back then c - 1 - k else k
def ordU (n m : Nat) (f g : Nat → Int) (back : Bool) (k : Nat) : List (Nat × Nat) := (List.range k).map fun i => pr n f g (idxU (cntU n m) back i)
theorem ordU_succ (n m : Nat) (f g : Nat → Int) (back : Bool) (k : Nat) : ordU n m f g back (k + 1) = ordU n m f g back k ++ [pr n f g (idxU (cntU n m) back k)] := by simp [ordU, List.range_succ]
theorem ordU_fold (n m : Nat) (f g : Nat → Int) (back : Bool) (lab : Nat → Nat) : (ordU n m f g back (cntU n m)).foldl uni lab = (prs n m f g).foldl uni lab := by
  cases back with
  | false => rfl
  | true =>
    rw [← foldl_reverse (prs n m f g)]
    congr 1
    unfold ordU prs idxU
    refine List.ext_getElem (by simp) fun i h1 h2 => ?_
    simp at h1
    simp [h1]
theorem ordU_lt {n m : Nat} {f g : Nat → Int} {back : Bool} {k : Nat} (hn : 0 < n) : ∀ p ∈ ordU n m f g back k, p.1 < n ∧ p.2 < n := by
  intro p hp
  obtain ⟨i, _, rfl⟩ := List.mem_map.1 hp
  unfold pr
  have h1 := Int.emod_lt_of_pos (f (idxU (cntU n m) back i)) (show (0 : Int) < n by omega)
  have h2 := Int.emod_lt_of_pos (g (idxU (cntU n m) back i)) (show (0 : Int) < n by omega)
  have h3 := Int.emod_nonneg (f (idxU (cntU n m) back i)) (show (n : Int) ≠ 0 by omega)
  have h4 := Int.emod_nonneg (g (idxU (cntU n m) back i)) (show (n : Int) ≠ 0 by omega)
  constructor <;> simp only <;> omega
theorem prs_lt {n m : Nat} {f g : Nat → Int} : ∀ p ∈ prs n m f g, p.1 < n ∧ p.2 < n := by
  by_cases hn : 0 < n
  · exact ordU_lt (n := n) (m := m) (f := f) (g := g) (back := false) (k := cntU n m) hn
  · obtain rfl : n = 0 := by omega
    intro p hp
    simp [prs, cntU] at hp

theorem idx_back {n m k : Nat} (hn : 0 < n) (hk : k < cntU n m) : ∃ i, idxU (cntU n m) true k = i ∧ i < m ∧
    ((m < 200 ∧ (m : Int) - 1 - (k : Int) = (i : Int) ∧ True) ∨ (200 < m ∧ (199 : Int) - (k : Int) = (i : Int) ∧ True) ∨ ((m ≤ 200 ∧ 200 ≤ m) ∧ (m : Int) - 1 - (k : Int) = (i : Int) ∧ (199 : Int) - (k : Int) = (i : Int))) := by
  have hm : cntU n m = min m 200 := by unfold cntU; rw [if_neg (by omega)]
  rw [hm] at hk ⊢
  refine ⟨_, rfl, ?_⟩
  unfold idxU
  rw [if_pos rfl]
  rcases Nat.le_total m 200 with hle | hle
  · rw [Nat.min_eq_left hle] at hk ⊢
    refine ⟨by omega, ?_⟩
    by_cases e : m = 200
    · exact .inr (.inr ⟨by omega, by omega, by omega⟩)
    · exact .inl ⟨by omega, by omega, trivial⟩
  · rw [Nat.min_eq_right hle] at hk ⊢
    refine ⟨by omega, ?_⟩
    by_cases e : m = 200
    · exact .inr (.inr ⟨by omega, by omega, by omega⟩)
    · exact .inr (.inl ⟨by omega, by omega, trivial⟩)

/-- How unite ends. -/
def Uni (n : Nat) (lab lab' : Nat → Nat) (A : Nat) (wt : Nat → Nat) (W : World) (F : List Nat) (e : Ending) (w' : World) : Prop := e = .returned (.int .i64 ((roots n lab : Int) - roots n lab')) ∧ ∃ F', TalAt w' F' A n lab' wt ∧ Moves W F w' F'

/-- The state of the loop. -/
def UniAt (n m : Nat) (f g : Nat → Int) (back : Bool) (k : Nat) (lab : Nat → Nat) (A : Nat) (wt : Nat → Nat) (W : World) (F : List Nat) (wr : World) : Prop := ∃ F', TalAt wr F' A n ((ordU n m f g back k).foldl uni lab) wt ∧ Moves W F wr F'
theorem UniAt.next {n m : Nat} {f g : Nat → Int} {back : Bool} {k : Nat} {lab : Nat → Nat} {A : Nat} {wt : Nat → Nat} {W : World} {F : List Nat} {wr : World} (h : UniAt n m f g back k lab A wt W F wr) (hn : 0 < n) {a b : Nat} (hp : pr n f g (idxU (cntU n m) back k) = (a, b)) :
    Calls Try.prog 32 #[.pointer (some ⟨A, 0, none⟩), .int .i64 a, .int .i64 b] wr.drew fun e w' => e = .returned (.tuple #[.bool (decide (win ((ordU n m f g back k).foldl uni lab) (a, b) = 1)), .int .i64 0]) ∧ Hid (UniAt n m f g back (k + 1) lab A wt W F w') := by
  obtain ⟨F', ht, hm⟩ := h
  have hab := ordU_lt (m := m) (f := f) (g := g) (back := back) (k := k + 1) hn (pr n f g (idxU (cntU n m) back k)) (by rw [ordU_succ]; simp)
  rw [hp] at hab
  refine (TUnion (ht.keep ((Only.refl [] wr).drewN 1)) a b hab.1 hab.2).mono ?_
  rintro e w' ⟨rfl, F2, ht2, ho, hg⟩
  refine ⟨?_, Lib.hid ⟨F2, ?_, (hm.quiet ((Only.refl [] wr).drewN 1)).trans ⟨ho, hg⟩⟩⟩
  · congr 5
    rw [decide_eq_decide]
    unfold win
    split <;> simp [*]
  · rw [ordU_succ, List.foldl_append, hp]; exact ht2

set_option maxRecDepth 100000 in
set_option maxHeartbeats 4000000 in
theorem unite_any (A : Option Addr) (T n m c : Nat) (back : Bool) (f g : Nat → Int) (lab wt : Nat → Nat) (F : List Nat) (w : World) (hP : ∀ W F', Moves w F W F' → PairsIn W .u8 A m f g) (ht : TalAt w F T n lab wt) :
    Calls Try.prog 27 #[.pointer (some ⟨T, 0, none⟩), .int .i64 n, .slice A m c, .bool back] w (Uni n lab ((prs n m f g).foldl uni lab) T wt w F) := by
  have hl := (hP w F (Moves.refl _ _)).len
  unfold maxLen at hl
  have hn0 := ht.bound
  have HP := Lib.hid hP
  have HL := Lib.hid ht.labs
  have HT := Lib.hid (show UniAt n m f g back 0 lab T wt w F w from ⟨F, ht, Moves.refl _ _⟩)
  clear hP ht
  cases back with
  | false =>
    go_enter Try.func27, Try.ntmps27
    go_wp2_with fail
    go_loopw [9, 10] (fun u i wr => ∃ k : Nat, k ≤ cntU n m ∧ i = .int .i64 k ∧ u = .int .i64 (wins lab (ordU n m f g false k)) ∧ Hid (UniAt n m f g false k lab T wt w F wr)) (fun _ i _ => cntU n m - (intOf i).toNat)
    case atStart => exact ⟨0, Nat.zero_le _, rfl, rfl, HT⟩
    case round =>
      obtain ⟨k, hk, rfl, rfl, hu⟩ := hrel
      have hwl := wins_le (ordU n m f g false k) lab
      have hol : (ordU n m f g false k).length = k := by simp [ordU]
      rw [hol] at hwl
      clear hol
      by_cases hlt : k < cntU n m
      · have hn : 0 < n := by unfold cntU at hlt; split at hlt <;> omega
        have hkm : k < m := by unfold cntU at hlt; split at hlt <;> omega
        have hk2 : k < 200 := by unfold cntU at hlt; split at hlt <;> omega
        have hi : idxU (cntU n m) false k = k := rfl
        have him := hkm
        obtain ⟨a, b, hp⟩ : ∃ a b, pr n f g k = (a, b) := ⟨_, _, rfl⟩
        have CP := Lib.hid (fun W' k' (h : UniAt n m f g false k' lab T wt w F W') => (HP.out W' _ h.choose_spec.2))
        obtain ⟨b1, off, rfl, hc1, hc2⟩ := (CP.out wr _ hu.out).cell him
        have hwf := (CP.out wr _ hu.out).wf k him
        obtain ⟨f0, f1⟩ := wf_u8 hwf.1
        obtain ⟨g0, g1⟩ := wf_u8 hwf.2
        have q1 : f k % (n : Int) = (a : Int) := by
          have := Int.emod_nonneg (f k) (show (n : Int) ≠ 0 by omega)
          have : (f k % n).toNat = a := congrArg Prod.fst hp
          omega
        have q2 : g k % (n : Int) = (b : Int) := by
          have := Int.emod_nonneg (g k) (show (n : Int) ≠ 0 by omega)
          have : (g k % n).toNat = b := congrArg Prod.snd hp
          omega
        have q3 : (f k).tmod (n : Int) = (a : Int) := by rw [Int.tmod_eq_emod_of_nonneg f0]; exact q1
        have q4 : (g k).tmod (n : Int) = (b : Int) := by rw [Int.tmod_eq_emod_of_nonneg g0]; exact q2
        have z3 : ¬ n = 0 := by omega
        have CU := Lib.hid ((hu.out.next hn (by rw [hi]; exact hp)).mono (R' := fun e w' => e = .returned (.tuple #[.bool (decide (win ((ordU n m f g false k).foldl uni lab) (a, b) = 1)), .int .i64 0]) ∧ Hid (UniAt n m f g false (k + 1) lab T wt w F w') ∧ w'.cell? ⟨b1, off + k * 2, none⟩ = some (.int .u8 (f k)) ∧ w'.cell? ⟨b1, off + k * 2 + 1, none⟩ = some (.int .u8 (g k))) fun e w' h => ⟨h.1, h.2, by
          obtain ⟨b2, off2, e2, k1, k2⟩ := (CP.out w' _ h.2.out).cell him
          cases e2
          exact ⟨k1, k2⟩⟩)
        have HWN := Lib.hid (show wins lab (ordU n m f g false (k + 1)) = wins lab (ordU n m f g false k) + win ((ordU n m f g false k).foldl uni lab) (a, b) by rw [ordU_succ, wins_snoc, hi, hp])
        have hw2 : win ((ordU n m f g false k).foldl uni lab) (a, b) = 1 ∨ win ((ordU n m f g false k).foldl uni lab) (a, b) = 0 := by unfold win; split <;> simp
        generalize win ((ordU n m f g false k).foldl uni lab) (a, b) = wv at *
        have HI := Lib.hid hi
        have q5 : IntKind.i64.wrap (f k) = f k := IntWalk.i64_in _ (by omega)
        have q6 : IntKind.i64.wrap (g k) = g k := IntWalk.i64_in _ (by omega)
        clear hwf hp hi hu CP
        rcases hw2 with rfl | rfl
        all_goals
          go_wp2_with fail
          go_region_held3 (fun w' => w'.cell? ⟨b1, off + k * 2, none⟩ = some (.int .u8 (f k)) ∧ w'.cell? ⟨b1, off + k * 2 + 1, none⟩ = some (.int .u8 (g k))) (first | exact ⟨hc1, hc2⟩ | exact hS1)
            (first | (go_at_call 32; refine CU.out.mono ?_; rintro e w1 ⟨rfl, HU1, hS1⟩))
          clear q5 q6
          go_wp2_with fail
          go_roundw
          case rel => exact ⟨k + 1, by omega, by go_num, by rw [HWN.out]; go_num, HU1⟩
          case measure => simp [intOf]; omega
      · obtain rfl : k = cntU n m := by omega
        have HF := Lib.hid (show Uni n lab ((prs n m f g).foldl uni lab) T wt w F (.returned (.int .i64 (wins lab (ordU n m f g false (cntU n m))))) wr by
          obtain ⟨F', ht, hm⟩ := hu.out
          have e := ordU_fold n m f g false lab
          refine ⟨?_, F', by rw [← e]; exact ht, hm⟩
          rw [← e]
          by_cases hn : 0 < n
          · have := wins_roots (ordU n m f g false (cntU n m)) HL.out (ordU_lt hn)
            rw [show (wins lab (ordU n m f g false (cntU n m)) : Int) = (roots n lab : Int) - roots n ((ordU n m f g false (cntU n m)).foldl uni lab) by omega]
          · obtain rfl : n = 0 := by omega
            rfl)
        clear hu
        obtain ⟨wv, hwv⟩ : ∃ wv, wins lab (ordU n m f g false (cntU n m)) = wv := ⟨_, rfl⟩
        rw [hwv] at HF ⊢
        clear hwv hwl
        have hex : cntU n m = m ∨ (cntU n m = 200 ∧ 200 < m) ∨ (n = 0 ∧ cntU n m = 0) := by
          unfold cntU
          by_cases hn : n = 0
          · exact .inr (.inr ⟨hn, if_pos hn⟩)
          · rw [if_neg hn]; omega
        obtain ⟨q, hq⟩ : ∃ q, cntU n m = q := ⟨_, rfl⟩
        rw [hq] at hex hk ⊢
        clear hq hlt
        rcases hex with rfl | ⟨rfl, hm⟩ | ⟨rfl, rfl⟩
        all_goals
          go_wp2_with fail
          all_goals (go_ret; exact HF.out)
  | true =>
    go_enter Try.func27, Try.ntmps27
    go_wp2_with fail
    go_loopw [9, 10] (fun u i wr => ∃ k : Nat, k ≤ cntU n m ∧ i = .int .i64 k ∧ u = .int .i64 (wins lab (ordU n m f g true k)) ∧ Hid (UniAt n m f g true k lab T wt w F wr)) (fun _ i _ => cntU n m - (intOf i).toNat)
    case atStart => exact ⟨0, Nat.zero_le _, rfl, rfl, HT⟩
    case round =>
      obtain ⟨k, hk, rfl, rfl, hu⟩ := hrel
      have hwl := wins_le (ordU n m f g true k) lab
      have hol : (ordU n m f g true k).length = k := by simp [ordU]
      rw [hol] at hwl
      clear hol
      by_cases hlt : k < cntU n m
      · have hn : 0 < n := by unfold cntU at hlt; split at hlt <;> omega
        have hkm : k < m := by unfold cntU at hlt; split at hlt <;> omega
        have hk2 : k < 200 := by unfold cntU at hlt; split at hlt <;> omega
        obtain ⟨i, hi, him, QI⟩ := idx_back hn hlt
        obtain ⟨a, b, hp⟩ : ∃ a b, pr n f g i = (a, b) := ⟨_, _, rfl⟩
        have CP := Lib.hid (fun W' k' (h : UniAt n m f g true k' lab T wt w F W') => (HP.out W' _ h.choose_spec.2))
        obtain ⟨b1, off, rfl, hc1, hc2⟩ := (CP.out wr _ hu.out).cell him
        have hwf := (CP.out wr _ hu.out).wf i him
        obtain ⟨f0, f1⟩ := wf_u8 hwf.1
        obtain ⟨g0, g1⟩ := wf_u8 hwf.2
        have q1 : f i % (n : Int) = (a : Int) := by
          have := Int.emod_nonneg (f i) (show (n : Int) ≠ 0 by omega)
          have : (f i % n).toNat = a := congrArg Prod.fst hp
          omega
        have q2 : g i % (n : Int) = (b : Int) := by
          have := Int.emod_nonneg (g i) (show (n : Int) ≠ 0 by omega)
          have : (g i % n).toNat = b := congrArg Prod.snd hp
          omega
        have q3 : (f i).tmod (n : Int) = (a : Int) := by rw [Int.tmod_eq_emod_of_nonneg f0]; exact q1
        have q4 : (g i).tmod (n : Int) = (b : Int) := by rw [Int.tmod_eq_emod_of_nonneg g0]; exact q2
        have z3 : ¬ n = 0 := by omega
        have CU := Lib.hid ((hu.out.next hn (by rw [hi]; exact hp)).mono (R' := fun e w' => e = .returned (.tuple #[.bool (decide (win ((ordU n m f g true k).foldl uni lab) (a, b) = 1)), .int .i64 0]) ∧ Hid (UniAt n m f g true (k + 1) lab T wt w F w') ∧ w'.cell? ⟨b1, off + i * 2, none⟩ = some (.int .u8 (f i)) ∧ w'.cell? ⟨b1, off + i * 2 + 1, none⟩ = some (.int .u8 (g i))) fun e w' h => ⟨h.1, h.2, by
          obtain ⟨b2, off2, e2, k1, k2⟩ := (CP.out w' _ h.2.out).cell him
          cases e2
          exact ⟨k1, k2⟩⟩)
        have HWN := Lib.hid (show wins lab (ordU n m f g true (k + 1)) = wins lab (ordU n m f g true k) + win ((ordU n m f g true k).foldl uni lab) (a, b) by rw [ordU_succ, wins_snoc, hi, hp])
        have hw2 : win ((ordU n m f g true k).foldl uni lab) (a, b) = 1 ∨ win ((ordU n m f g true k).foldl uni lab) (a, b) = 0 := by unfold win; split <;> simp
        generalize win ((ordU n m f g true k).foldl uni lab) (a, b) = wv at *
        have HI := Lib.hid hi
        have q5 : IntKind.i64.wrap (f i) = f i := IntWalk.i64_in _ (by omega)
        have q6 : IntKind.i64.wrap (g i) = g i := IntWalk.i64_in _ (by omega)
        clear hwf hp hi hu CP
        rcases QI with ⟨hm2, qa, qb⟩ | ⟨hm2, qa, qb⟩ | ⟨⟨hm2, hm3⟩, qa, qb⟩
        all_goals rcases hw2 with rfl | rfl
        all_goals
          go_wp2_with fail
          go_region_held3 (fun w' => w'.cell? ⟨b1, off + i * 2, none⟩ = some (.int .u8 (f i)) ∧ w'.cell? ⟨b1, off + i * 2 + 1, none⟩ = some (.int .u8 (g i))) (first | exact ⟨hc1, hc2⟩ | exact hS1)
            (first | (go_at_call 32; refine CU.out.mono ?_; rintro e w1 ⟨rfl, HU1, hS1⟩))
          clear q5 q6
          go_wp2_with fail
          go_roundw
          case rel => exact ⟨k + 1, by omega, by go_num, by rw [HWN.out]; go_num, HU1⟩
          case measure => simp [intOf]; omega
      · obtain rfl : k = cntU n m := by omega
        have HF := Lib.hid (show Uni n lab ((prs n m f g).foldl uni lab) T wt w F (.returned (.int .i64 (wins lab (ordU n m f g true (cntU n m))))) wr by
          obtain ⟨F', ht, hm⟩ := hu.out
          have e := ordU_fold n m f g true lab
          refine ⟨?_, F', by rw [← e]; exact ht, hm⟩
          rw [← e]
          by_cases hn : 0 < n
          · have := wins_roots (ordU n m f g true (cntU n m)) HL.out (ordU_lt hn)
            rw [show (wins lab (ordU n m f g true (cntU n m)) : Int) = (roots n lab : Int) - roots n ((ordU n m f g true (cntU n m)).foldl uni lab) by omega]
          · obtain rfl : n = 0 := by omega
            rfl)
        clear hu
        obtain ⟨wv, hwv⟩ : ∃ wv, wins lab (ordU n m f g true (cntU n m)) = wv := ⟨_, rfl⟩
        rw [hwv] at HF ⊢
        clear hwv hwl
        have hex : cntU n m = m ∨ (cntU n m = 200 ∧ 200 < m) ∨ (n = 0 ∧ cntU n m = 0) := by
          unfold cntU
          by_cases hn : n = 0
          · exact .inr (.inr ⟨hn, if_pos hn⟩)
          · rw [if_neg hn]; omega
        obtain ⟨q, hq⟩ : ∃ q, cntU n m = q := ⟨_, rfl⟩
        rw [hq] at hex hk ⊢
        clear hq hlt
        rcases hex with rfl | ⟨rfl, hm⟩ | ⟨rfl, rfl⟩
        all_goals
          go_wp2_with fail
          all_goals (go_ret; exact HF.out)
end Go.Proofs.Ytbafacdknaopjaa
