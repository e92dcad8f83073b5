import Derived.WalkKit
import Derived.WalkSpells
import Derived.WalkLawsBesides
import Derived.BigQuiet
import Derived.Laws.BitsAllLaws
import Derived.RegionTactic
import Derived.BigRegion
import Derived.ChangeAlike
import Derived.Lib.Hide
import Derived.Deep.OwnRows
import Derived.Deep.DeepFit
import Derived.RangeFuncNested
import Derived.RangeFuncBound
import Derived.RangeFuncCalls
import Derived.RangeFuncLeaves
import Derived.Shelf.Abstract
import Derived.Shelf.RegionOpen
import Derived.OwnWalkIn
import Derived.TacticsInMore
import Derived.LoopNIn
import Derived.LoopIn
import Derived.Test.YtbafacdknaopjaaRows
import Derived.Test.YtbafacdknaopjaaYX1
/-
  The contracts of the small functions: range tests, the absolute amount, rounding down.
-/
namespace Go.Proofs.Ytbafacdknaopjaa.X
open Go.RowKit Go.Fl

theorem ret_bool {a b : Bool} (h : a = b) : Ending.returned (.bool a) = .returned (.bool b) := by rw [h]

set_option maxHeartbeats 400000 in
theorem isProb_any (p : Nat) (w : World) :
    Calls Try.prog 98 #[.float .f64 p] w fun e w' => e = .returned (.bool (prob p)) ∧ w = w' := by
  go_enter Try.func98, Try.ntmps98
  go_wp2
  all_goals
    go_ret
    exact ⟨ret_bool (by simp [prob, fge, fle, one, *]), rfl⟩

theorem run_f64bits (p : Nat) (w : World) : (callFunc 170 #[.float .f64 p]).run Try.prog w = .ok (.value (.int .u64 p)) w := by kernel_rfl

theorem run_f64from (n : Nat) (w : World) : (callFunc 169 #[.int .u64 n]).run Try.prog w = .ok (.value (.float .f64 n)) w := by kernel_rfl

def floored (d : Ieee.Datum) (X : Bool → Nat → Sem Value) : Sem Value :=
  match d with
  | .nan s t => X s t
  | d => pure (.float .f64 (FloatKind.f64.encode (d.integral .down)))

theorem run_floor (p : Nat) (w : World) (s : Bool) (m : Nat) (e : Int) (h : FloatKind.f64.decode p = .number s m e) :
    (callFunc 186 #[.float .f64 p]).run Try.prog w = .ok (.value (.float .f64 (FloatKind.f64.encode ((Ieee.Datum.number s m e).integral .down)))) w := by
  have : (callFunc 186 #[.float .f64 p]).run Try.prog w = (do let v ← floored (FloatKind.f64.decode p) (fun s t =>
      if FloatKind.f64.format.quiet t = t then pure (.float .f64 p) else do
      let kept ← choose (.extern "math.Floor,Ceil,Trunc,RoundToEven.signallingNaN kept" 2)
      pure (.float .f64 (if kept == 1 then p else FloatKind.f64.encode (.nan s (FloatKind.f64.format.quiet t))))); pure (.value v) : Sem Next).run Try.prog w := by kernel_rfl
  rw [this, h]
  rfl

theorem andNot_top (p : Nat) (h : p < 2 ^ 64) : bits .andNot .u64 (p : Int) 9223372036854775808 = ((absb p : Nat) : Int) := by
  have := u64_andNot_nat p 9223372036854775808 (by omega) (by omega)
  rw [show ((9223372036854775808 : Nat) : Int) = 9223372036854775808 from rfl] at this
  rw [this]
  unfold absb
  have e : 18446744073709551615 - 9223372036854775808 = 2 ^ 63 - 1 := by decide
  rw [e, Nat.and_two_pow_sub_one_eq_mod]

set_option maxHeartbeats 400000 in
theorem abs_any (p : Nat) (hp : p < 2 ^ 64) (w : World) :
    Calls Try.prog 146 #[.float .f64 p] w fun e w' => e = .returned (.float .f64 (absb p)) ∧ w = w' := by
  have h1 := run_f64bits p
  have h2 : ∀ w, (callFunc 169 #[.int .u64 (bits .andNot .u64 (p : Int) 9223372036854775808)]).run Try.prog w = .ok (.value (.float .f64 (absb p))) w := by
    rw [andNot_top p hp]; exact run_f64from _
  clear hp
  go_enter Try.func146, Try.ntmps146
  go_wp2
  go_ret
  exact ⟨rfl, rfl⟩

set_option maxHeartbeats 400000 in
theorem floor_any (p : Nat) (w : World) (s : Bool) (m : Nat) (e : Int) (h : FloatKind.f64.decode p = .number s m e) :
    Calls Try.prog 172 #[.float .f64 p] w fun e' w' => e' = .returned (.float .f64 (FloatKind.f64.encode ((Ieee.Datum.number s m e).integral .down))) ∧ w = w' := by
  have h1 := fun w => run_floor p w s m e h
  clear h
  generalize FloatKind.f64.encode ((Ieee.Datum.number s m e).integral .down) = r at *
  go_enter Try.func172, Try.ntmps172
  go_wp2
  go_ret
  exact ⟨rfl, rfl⟩

set_option maxHeartbeats 400000 in
theorem one_any (p q : Nat) (w : World) :
    Calls Try.prog 152 #[.float .f64 p, .float .f64 q] w fun e w' => e = .returned (.bool (p == q)) ∧ w = w' := by
  have h1 := run_f64bits p
  have h2 := run_f64bits q
  go_enter Try.func152, Try.ntmps152
  go_wp2
  go_ret
  exact ⟨ret_bool (by rw [Bool.eq_iff_iff]; simp; omega), rfl⟩

end Go.Proofs.Ytbafacdknaopjaa.X

/-
  The contract of the closure that computes one side of the weights.
-/
namespace Go.Proofs.Ytbafacdknaopjaa.X
open Go.RowKit Go.Fl

theorem run_store_float (P : Program) (w : World) (a : Addr) (m : Mode) (k : FloatKind) (b : Nat) : (store a (.float k b) m).run P w = stored P w a (.float k b) m := run_store P w a _ m rfl

attribute [local go_sem] run_store_float

set_option maxHeartbeats 800000 in
theorem put_any (k from_ above below : Nat) (odds : Nat) (Bw g n : Nat) (w : World) (x q t r u : Nat)
    (hk : k < n) (hf : from_ < n) (_hn : n ≤ 16385)
    (hc : w.cell? ⟨Bw, 0, none⟩ = some (.slice (some ⟨g, 0, none⟩) n n))
    (hx : w.cell? ⟨g, from_, none⟩ = some (.float .f64 x))
    (hu : w.cell? ⟨g, k, none⟩ = some (.float .f64 u))
    (hz : w.frozen? ⟨g, k, none⟩ = false)
    (h1 : floatBits .quo .f64 (floatOfInt .f64 (above : Int)) (floatOfInt .f64 (below : Int)) = some q)
    (h2 : floatBits .mul .f64 x q = some t)
    (h3 : floatBits .mul .f64 t odds = some r) :
    Calls Try.prog 173 #[.int .i64 k, .int .i64 from_, .int .i64 above, .int .i64 below, .float .f64 odds, .pointer (some ⟨Bw, 0, none⟩)] w
      fun e w' => e = .returned (.tuple #[]) ∧ w' = (w.setCell ⟨g, k, none⟩ (.float .f64 r)).drew := by
  have o1 := fun ty (w : World) => run_float_arith (P := Try.prog) w .quo ty .f64 _ _ _ h1
  have o2 := fun ty (w : World) => run_float_arith (P := Try.prog) w .mul ty .f64 _ _ _ h2
  have o3 := fun ty (w : World) => run_float_arith (P := Try.prog) w .mul ty .f64 _ _ _ h3
  clear h1 h2 h3
  have l1 : (k : Int) < (n : Int) := by omega
  have l2 : (from_ : Int) < (n : Int) := by omega
  go_enter Try.func173, Try.ntmps173
  go_wp2
  go_region
  go_end0
  exact ⟨rfl, rfl⟩

theorem put_i {ki fi ai bi : Int} {k from_ above below : Nat} (e1 : ki = k) (e2 : fi = from_) (e3 : ai = above) (e4 : bi = below) {odds : Nat} {Bw g n : Nat} {w : World} {x q t r u : Nat}
    (hk : k < n) (hf : from_ < n) (hn : n ≤ 16385)
    (hc : w.cell? ⟨Bw, 0, none⟩ = some (.slice (some ⟨g, 0, none⟩) n n))
    (hx : w.cell? ⟨g, from_, none⟩ = some (.float .f64 x))
    (hu : w.cell? ⟨g, k, none⟩ = some (.float .f64 u))
    (hz : w.frozen? ⟨g, k, none⟩ = false)
    (h1 : floatBits .quo .f64 (floatOfInt .f64 (above : Int)) (floatOfInt .f64 (below : Int)) = some q)
    (h2 : floatBits .mul .f64 x q = some t)
    (h3 : floatBits .mul .f64 t odds = some r) :
    Calls Try.prog 173 #[.int .i64 ki, .int .i64 fi, .int .i64 ai, .int .i64 bi, .float .f64 odds, .pointer (some ⟨Bw, 0, none⟩)] w
      fun e w' => e = .returned (.tuple #[]) ∧ w' = (w.setCell ⟨g, k, none⟩ (.float .f64 r)).drew := by
  subst e1 e2 e3 e4
  exact put_any k from_ above below odds Bw g n w x q t r u hk hf hn hc hx hu hz h1 h2 h3

end Go.Proofs.Ytbafacdknaopjaa.X

/-
  The walk through the program's weights: the list it returns, in all four forms.
-/
namespace Go.Proofs.Ytbafacdknaopjaa.X
open Go.RowKit Go.Fl Go.Deep

theorem Try.info22 : (Try.prog.info? 77).map (fun i => (i.zero, i.size, i.bytes)) = some (some (.float .f64 0), 1, 8) := by kernel_rfl

theorem run_mk (n : Nat) (hn : n ≤ 16385) (w : World) :
    (Instr.makeSlice 74 (.int .i64 (n : Int)) (.int .i64 (n : Int))).run Try.prog w = .ok (.slice (some ⟨w.heap.size, 0, none⟩) n n) (w.alloc (.cells (madeCells #[.float .f64 0] n) 77)) :=
  run_make_row' 74 77 (.float .f64 0) 8 Try.underlying74 Try.info22 rfl .i64 .i64 n (by omega) (by omega) w

def fl (f : Nat → Nat) : Nat → Value := fun i => .float .f64 (f i)

/-- What lies in memory between two rounds: the row, the variable 'w', and nothing old has turned. -/
def Rows3 (w : World) (m : Nat) (f : Nat → Nat) (wr : World) : Prop :=
  wr.rowIs w.heap.size 77 (m + 1) (fl f) ∧ wr.rowIs (w.heap.size + 1) 74 1 (fun _ => .slice (some ⟨w.heap.size, 0, none⟩) (m + 1) (m + 1)) ∧ Below w.heap.size w wr

theorem Rows3.row {w wr : World} {m i : Nat} {f : Nat → Nat} (h : Rows3 w m f wr) (hi : i < m + 1) : wr.cell? ⟨w.heap.size, i, none⟩ = some (.float .f64 (f i)) := h.1.cell hi

theorem Rows3.frozen {w wr : World} {m : Nat} {f : Nat → Nat} (h : Rows3 w m f wr) (i : Nat) : wr.frozen? ⟨w.heap.size, i, none⟩ = false := h.1.frozen i

theorem Rows3.box {w wr : World} {m : Nat} {f : Nat → Nat} (h : Rows3 w m f wr) : wr.cell? ⟨w.heap.size + 1, 0, none⟩ = some (.slice (some ⟨w.heap.size, 0, none⟩) (m + 1) (m + 1)) := h.2.1.cell (i := 0) (by omega)

theorem Rows3.set {w wr : World} {m : Nat} {f g : Nat → Nat} (h : Rows3 w m f wr) (i x : Nat) (hg : ∀ j, j < m + 1 → (if j = i then x else f j) = g j) :
    Rows3 w m g (wr.setCell ⟨w.heap.size, i, none⟩ (.float .f64 x)) := by
  refine ⟨(h.1.set i (.float .f64 x)).congr fun j hj => ?_, h.2.1.setOther (by show w.heap.size + 1 ≠ w.heap.size; omega) _, h.2.2.setCell (Nat.le_refl _) _⟩
  unfold fl
  rw [← hg j hj]
  split <;> rfl

theorem Rows3.congr {w wr : World} {m : Nat} {f g : Nat → Nat} (h : Rows3 w m f wr) (hg : ∀ j, j < m + 1 → f j = g j) : Rows3 w m g wr :=
  ⟨h.1.congr fun j hj => by unfold fl; rw [hg j hj], h.2.1, h.2.2⟩

theorem Rows3.drew {w wr : World} {m : Nat} {f : Nat → Nat} (h : Rows3 w m f wr) : Rows3 w m f wr.drew := ⟨h.1.drew, h.2.1.drew, h.2.2.drew⟩

attribute [local go_sem] run_store_float

set_option maxHeartbeats 2000000 in
set_option maxRecDepth 100000 in
theorem weights_a (m p : Nat) (w : World) (h : Ok m p) (n : Nat) (st : Begun m p n) (hlt : n < m)
    (hz : (FloatKind.f64.format.order p 0 == some Ordering.eq) = false)
    (hl : (FloatKind.f64.format.order (floorB (prod1 m p)) (floatOfInt .f64 (m : Int)) == some Ordering.lt) = true) :
    Calls Try.prog 150 #[.int .i64 m, .float .f64 p] w fun e w' => e = .returned (.slice (some ⟨w.heap.size, 0, none⟩) (m + 1) (m + 1)) ∧
      w'.rowIs w.heap.size 77 (m + 1) (fl (wt m p)) ∧ Below w.heap.size w w' := by
  have hm := h.m
  have hmk : ∀ W, (Instr.makeSlice 74 (.int .i64 ((m : Int) + 1)) (.int .i64 ((m : Int) + 1))).run Try.prog W = .ok (.slice (some ⟨W.heap.size, 0, none⟩) (m + 1) (m + 1)) (W.alloc (.cells (madeCells #[.float .f64 0] (m + 1)) 77)) :=
    fun W => by have := run_mk (m + 1) (by omega) W; rw [show ((m + 1 : Nat) : Int) = (m : Int) + 1 by omega] at this; exact this
  have hmul : ∀ ty W, (binOp .mul ty (.float .f64 (floatOfInt .f64 ((m : Int) + 1))) (.float .f64 p)).run Try.prog W = .ok (.float .f64 (prod1 m p)) W := by
    intro ty W
    have := run_float_arith (P := Try.prog) W .mul ty .f64 _ _ _ st.mul
    rw [show ((m + 1 : Nat) : Int) = (m : Int) + 1 by omega] at this
    exact this
  obtain ⟨s, mm, e, hd, he⟩ := st.num
  have hconv : ∀ W, (convert 77 3 (.float .f64 (floorB (prod1 m p)))).run Try.prog W = .ok (.int .i64 (n : Int)) W :=
    fun W => run_convert_float_int W 77 3 .f64 .i64 _ _ (by rw [Try.underlying77]; rfl) Try.underlying3 st.int
  have HC := Lib.hid (fun W => floor_any (prod1 m p) W s mm e hd)
  rw [he] at HC
  have HE := Lib.hid he
  have ST := Lib.hid st
  clear he hd st
  have l1 : (n : Int) < (m : Int) + 1 := by omega
  have hK : kz m p = n := by rw [ST.out.kz]; omega
  have HK := Lib.hid hK
  clear hK
  have R0 := ((World.rowIs_made w (.float .f64 0) (m + 1) 77).alloc (.cells #[Value.slice (some ⟨w.heap.size, 0, none⟩) (m + 1) (m + 1)] 74))
  have hc1 := R0.cell (i := n) (by omega)
  have hf1 := R0.frozen n
  have HR := Lib.hid R0
  clear R0
  go_enter Try.func150, Try.ntmps150
  go_wp2_with (go_at_call 172; refine (HC.out _).mono ?_; rintro e w' ⟨rfl, rfl⟩)
  have HL : Rows3 w m (fun i => if n ≤ i ∧ i ≤ n then raw m p i else 0) (((w.alloc (.cells (madeCells #[Value.float .f64 0] (m + 1)) 77)).alloc (.cells #[Value.slice (some ⟨w.heap.size, 0, none⟩) (m + 1) (m + 1)] 74)).setCell ⟨w.heap.size, n, none⟩ (.float .f64 4607182418800017408)) := by
    refine Rows3.set (f := fun _ => 0) ⟨HR.out, ?_, ?_⟩ n 4607182418800017408 ?_
    · have := World.rowIs_alloc (w.alloc (.cells (madeCells #[Value.float .f64 0] (m + 1)) 77)) #[Value.slice (some ⟨w.heap.size, 0, none⟩) (m + 1) (m + 1)] 74 (fun _ => Value.slice (some ⟨w.heap.size, 0, none⟩) (m + 1) (m + 1)) (by intro i hi; simp at hi; subst hi; rfl)
      simpa using this
    · exact ((Below.refl _ w).alloc (Nat.le_refl _) _).alloc (by simp) _
    · intro j _
      by_cases hj : j = n
      · have hr := raw_kz m p; rw [HK.out] at hr; rw [hj, if_pos rfl, if_pos ⟨Nat.le_refl _, Nat.le_refl _⟩, hr]; rfl
      · rw [if_neg hj, if_neg (by omega)]
  rw [World.setCell_alloc_past _ _ _ _ (by simp), World.setCell_alloc_at _ _ _ _ _ rfl] at HL
  go_loopw [9] (fun v wr => ∃ k : Nat, n ≤ k ∧ k ≤ m ∧ v = .int .i64 k ∧ Rows3 w m (fun i => if n ≤ i ∧ i ≤ k then raw m p i else 0) wr) (fun v _ => m - (intOf v).toNat)
  case atStart => exact ⟨n, Nat.le_refl _, by omega, rfl, HL⟩
  case round =>
    clear HL hc1 hf1 hmul hconv hmk
    obtain ⟨k, hk1, hk2, rfl, hL⟩ := hrel
    by_cases hkm : k < m
    · obtain ⟨o1, o2, o3, o4, o5⟩ := raw_up_ops h (k := k) (by rw [HK.out]; exact hk1) hkm
      have c1 := hL.box
      have hsub := fun ty W => run_float_arith (P := Try.prog) W .sub ty .f64 _ _ _ o1
      have hquo := fun ty W => run_float_arith (P := Try.prog) W .quo ty .f64 _ _ _ o2
      unfold one at hsub hquo
      have r1 := hL.row (i := k) (by omega)
      rw [if_pos ⟨hk1, Nat.le_refl _⟩] at r1
      have CP := Lib.hid (put_i (ki := (k : Int) + 1) (fi := k) (ai := (m : Int) - k) (bi := (k : Int) + 1) (k := k + 1) (from_ := k) (above := m - k) (below := k + 1) (by omega) rfl (by omega) (by omega)
        (odds := oddU p) (Bw := w.heap.size + 1) (g := w.heap.size) (n := m + 1) (w := wr) (by omega) (by omega) (by omega) c1 r1 (hL.row (i := k + 1) (by omega)) (hL.frozen _) o3 o4 o5)
      have HN : Rows3 w m (fun i => if n ≤ i ∧ i ≤ k + 1 then raw m p i else 0) ((wr.setCell ⟨w.heap.size, k + 1, none⟩ (.float .f64 (raw m p (k + 1)))).drew) := by
        refine (hL.set (k + 1) (raw m p (k + 1)) fun j _ => ?_).drew
        by_cases hj : j = k + 1
        · subst hj; rw [if_pos rfl, if_pos ⟨by omega, Nat.le_refl _⟩]
        · rw [if_neg hj]
          by_cases hj2 : n ≤ j ∧ j ≤ k
          · rw [if_pos hj2, if_pos ⟨hj2.1, by omega⟩]
          · rw [if_neg hj2, if_neg (by omega)]
      clear o1 o2 o3 o4 o5 r1
      go_wp2_with (go_at_call 173; refine CP.out.mono ?_; rintro e w' ⟨rfl, rfl⟩)
      go_roundw
      case rel => exact ⟨k + 1, by omega, by omega, by go_num, HN⟩
      case measure => simp [intOf]; omega
    · have hkm' : k = m := by omega
      have HL2 : Rows3 w m (fun i => if n ≤ i then raw m p i else 0) wr := by
        refine hL.congr fun j hj => ?_
        by_cases hj2 : n ≤ j
        · rw [if_pos hj2, if_pos ⟨hj2, by omega⟩]
        · rw [if_neg hj2, if_neg (by omega)]
      clear hL hkm'
      go_wp2
      obtain ⟨wo, rfl⟩ : ∃ wo : World, wo = wr := ⟨_, rfl⟩
      go_loopw [10] (fun v wr => ∃ k : Nat, k ≤ n ∧ v = .int .i64 k ∧ Rows3 w m (fun i => if k ≤ i then raw m p i else 0) wr) (fun v _ => (intOf v).toNat)
      case atStart => exact ⟨n, Nat.le_refl _, rfl, HL2⟩
      case round =>
        clear HL2 hk1 hk2 hkm
        obtain ⟨k, hk1, rfl, hL⟩ := hrel
        cases k with
        | succ k =>
          obtain ⟨o1, o2, o3, o4, o5⟩ := raw_dn_ops h (k := k) (by rw [HK.out]; omega)
          have c1 := hL.box
          have hsub := fun ty W => run_float_arith (P := Try.prog) W .sub ty .f64 _ _ _ o1
          have hquo := fun ty W => run_float_arith (P := Try.prog) W .quo ty .f64 _ _ _ o2
          unfold one at hsub hquo
          have r1 := hL.row (i := k + 1) (by omega)
          rw [if_pos (Nat.le_refl _)] at r1
          have CP := Lib.hid (put_i (ki := (k : Int)) (fi := (k : Int) + 1) (ai := (k : Int) + 1) (bi := (m : Int) - (k + 1) + 1) (k := k) (from_ := k + 1) (above := k + 1) (below := m - (k + 1) + 1) rfl (by omega) (by omega) (by omega)
            (odds := oddD p) (Bw := w.heap.size + 1) (g := w.heap.size) (n := m + 1) (w := wr) (by omega) (by omega) (by omega) c1 r1 (hL.row (i := k) (by omega)) (hL.frozen _) o3 o4 o5)
          have HN : Rows3 w m (fun i => if k ≤ i then raw m p i else 0) ((wr.setCell ⟨w.heap.size, k, none⟩ (.float .f64 (raw m p k))).drew) := by
            refine (hL.set k (raw m p k) fun j _ => ?_).drew
            by_cases hj : j = k
            · subst hj; rw [if_pos rfl, if_pos (Nat.le_refl _)]
            · rw [if_neg hj]
              by_cases hj2 : k + 1 ≤ j
              · rw [if_pos hj2, if_pos (by omega)]
              · rw [if_neg hj2, if_neg (by omega)]
          clear o1 o2 o3 o4 o5 r1
          go_wp2_with (go_at_call 173; refine CP.out.mono ?_; rintro e w' ⟨rfl, rfl⟩)
          go_roundw
          case rel => exact ⟨k, by omega, by go_num, HN⟩
          case measure => simp [intOf]
        | zero =>
          have HL3 : Rows3 w m (raw m p) wr := hL.congr fun j _ => if_pos (Nat.zero_le j)
          clear hL hk1
          have c1 := HL3.box
          go_wp2
          obtain ⟨wo, rfl⟩ : ∃ wo : World, wo = wr := ⟨_, rfl⟩
          go_loop [11, 78] (fun s i => ∃ k : Nat, k ≤ m + 1 ∧ i = .int .i64 k ∧ s = .float .f64 (psum (raw m p) k)) (fun _ i => m + 1 - (intOf i).toNat)
          case atStart => exact ⟨0, Nat.zero_le _, rfl, rfl⟩
          case round =>
            obtain ⟨k, hk, rfl, rfl⟩ := hrel
            by_cases hkm : k < m + 1
            · have r1 := HL3.row hkm
              have hadd := fun ty W => run_float_arith (P := Try.prog) W .add ty .f64 _ _ _ (((psum_ok (n := m + 1) (by omega) (raw_all h) k (by omega)).2.2.2 hkm).1)
              have l2 : (k : Int) < (m : Int) + 1 := by omega
              go_wp2
              go_round
              case rel => exact ⟨k + 1, by omega, by go_num, rfl⟩
              case measure => simp [intOf]; omega
            · have l2 : ¬ (k : Int) < (m : Int) + 1 := by omega
              have hkk : k = m + 1 := by omega
              subst hkk
              go_wp2
              obtain ⟨wo, rfl⟩ : ∃ wo' : World, wo' = wo := ⟨_, rfl⟩
              go_loopw [88] (fun i wr => ∃ k : Nat, k ≤ m + 1 ∧ i = .int .i64 k ∧ Rows3 w m (fun j => if j < k then wt m p j else raw m p j) wr) (fun i _ => m + 1 - (intOf i).toNat)
              case atStart => exact ⟨0, Nat.zero_le _, rfl, HL3.congr fun j _ => by rw [if_neg (by omega)]⟩
              case round =>
                clear HL3 c1 l2 hk hkm
                obtain ⟨k, hk, rfl, hL⟩ := hrel
                have c1 := hL.box
                by_cases hkm : k < m + 1
                · have r1 := hL.row hkm
                  have f1 := hL.frozen k
                  rw [if_neg (Nat.lt_irrefl k)] at r1
                  have hq := (wt_ok h (k := k) (by omega)).1
                  unfold total at hq
                  have hquo := fun ty W => run_float_arith (P := Try.prog) W .quo ty .f64 _ _ _ hq
                  clear hq
                  have l2 : (k : Int) < (m : Int) + 1 := by omega
                  have HN : Rows3 w m (fun j => if j < k + 1 then wt m p j else raw m p j) (wr.setCell ⟨w.heap.size, k, none⟩ (.float .f64 (wt m p k))) := by
                    refine hL.set k (wt m p k) fun j _ => ?_
                    by_cases hj : j = k
                    · subst hj; rw [if_pos rfl, if_pos (by omega)]
                    · rw [if_neg hj]
                      by_cases hj2 : j < k
                      · rw [if_pos hj2, if_pos (by omega)]
                      · rw [if_neg hj2, if_neg (by omega)]
                  go_wp2
                  go_roundw
                  case rel => exact ⟨k + 1, by omega, by go_num, HN⟩
                  case measure => simp [intOf]; omega
                · have l2 : ¬ (k : Int) < (m : Int) + 1 := by omega
                  have HF : Rows3 w m (wt m p) wr := hL.congr fun j hj => if_pos (by omega)
                  clear hL
                  go_wp2
                  go_ret
                  exact ⟨rfl, HF.1, HF.2.2⟩

set_option maxHeartbeats 2000000 in
set_option maxRecDepth 100000 in
theorem weights_b (m p : Nat) (w : World) (h : Ok m p) (n : Nat) (st : Begun m p n) (hlt : m ≤ n)
    (hz : (FloatKind.f64.format.order p 0 == some Ordering.eq) = false)
    (hl : (FloatKind.f64.format.order (floorB (prod1 m p)) (floatOfInt .f64 (m : Int)) == some Ordering.lt) = false) :
    Calls Try.prog 150 #[.int .i64 m, .float .f64 p] w fun e w' => e = .returned (.slice (some ⟨w.heap.size, 0, none⟩) (m + 1) (m + 1)) ∧
      w'.rowIs w.heap.size 77 (m + 1) (fl (wt m p)) ∧ Below w.heap.size w w' := by
  have hm := h.m
  have hmk : ∀ W, (Instr.makeSlice 74 (.int .i64 ((m : Int) + 1)) (.int .i64 ((m : Int) + 1))).run Try.prog W = .ok (.slice (some ⟨W.heap.size, 0, none⟩) (m + 1) (m + 1)) (W.alloc (.cells (madeCells #[.float .f64 0] (m + 1)) 77)) :=
    fun W => by have := run_mk (m + 1) (by omega) W; rw [show ((m + 1 : Nat) : Int) = (m : Int) + 1 by omega] at this; exact this
  have hmul : ∀ ty W, (binOp .mul ty (.float .f64 (floatOfInt .f64 ((m : Int) + 1))) (.float .f64 p)).run Try.prog W = .ok (.float .f64 (prod1 m p)) W := by
    intro ty W
    have := run_float_arith (P := Try.prog) W .mul ty .f64 _ _ _ st.mul
    rw [show ((m + 1 : Nat) : Int) = (m : Int) + 1 by omega] at this
    exact this
  obtain ⟨s, mm, e, hd, he⟩ := st.num
  have HC := Lib.hid (fun W => floor_any (prod1 m p) W s mm e hd)
  rw [he] at HC
  have HE := Lib.hid he
  have ST := Lib.hid st
  clear he hd st
  have l1 : (m : Int) < (m : Int) + 1 := by omega
  have hK : kz m p = m := by rw [ST.out.kz]; omega
  have HK := Lib.hid hK
  clear hK
  have R0 := ((World.rowIs_made w (.float .f64 0) (m + 1) 77).alloc (.cells #[Value.slice (some ⟨w.heap.size, 0, none⟩) (m + 1) (m + 1)] 74))
  have hc1 := R0.cell (i := m) (by omega)
  have hf1 := R0.frozen m
  have HR := Lib.hid R0
  clear R0
  go_enter Try.func150, Try.ntmps150
  go_wp2_with (go_at_call 172; refine (HC.out _).mono ?_; rintro e w' ⟨rfl, rfl⟩)
  have HL : Rows3 w m (fun i => if m ≤ i ∧ i ≤ m then raw m p i else 0) (((w.alloc (.cells (madeCells #[Value.float .f64 0] (m + 1)) 77)).alloc (.cells #[Value.slice (some ⟨w.heap.size, 0, none⟩) (m + 1) (m + 1)] 74)).setCell ⟨w.heap.size, m, none⟩ (.float .f64 4607182418800017408)) := by
    refine Rows3.set (f := fun _ => 0) ⟨HR.out, ?_, ?_⟩ m 4607182418800017408 ?_
    · have := World.rowIs_alloc (w.alloc (.cells (madeCells #[Value.float .f64 0] (m + 1)) 77)) #[Value.slice (some ⟨w.heap.size, 0, none⟩) (m + 1) (m + 1)] 74 (fun _ => Value.slice (some ⟨w.heap.size, 0, none⟩) (m + 1) (m + 1)) (by intro i hi; simp at hi; subst hi; rfl)
      simpa using this
    · exact ((Below.refl _ w).alloc (Nat.le_refl _) _).alloc (by simp) _
    · intro j _
      by_cases hj : j = m
      · have hr := raw_kz m p; rw [HK.out] at hr; rw [hj, if_pos rfl, if_pos ⟨Nat.le_refl _, Nat.le_refl _⟩, hr]; rfl
      · rw [if_neg hj, if_neg (by omega)]
  rw [World.setCell_alloc_past _ _ _ _ (by simp), World.setCell_alloc_at _ _ _ _ _ rfl] at HL
  go_loopw [9] (fun v wr => ∃ k : Nat, m ≤ k ∧ k ≤ m ∧ v = .int .i64 k ∧ Rows3 w m (fun i => if m ≤ i ∧ i ≤ k then raw m p i else 0) wr) (fun v _ => m - (intOf v).toNat)
  case atStart => exact ⟨m, Nat.le_refl _, by omega, rfl, HL⟩
  case round =>
    clear HL hc1 hf1 hmul hmk
    obtain ⟨k, hk1, hk2, rfl, hL⟩ := hrel
    by_cases hkm : k < m
    · obtain ⟨o1, o2, o3, o4, o5⟩ := raw_up_ops h (k := k) (by rw [HK.out]; exact hk1) hkm
      have c1 := hL.box
      have hsub := fun ty W => run_float_arith (P := Try.prog) W .sub ty .f64 _ _ _ o1
      have hquo := fun ty W => run_float_arith (P := Try.prog) W .quo ty .f64 _ _ _ o2
      unfold one at hsub hquo
      have r1 := hL.row (i := k) (by omega)
      rw [if_pos ⟨hk1, Nat.le_refl _⟩] at r1
      have CP := Lib.hid (put_i (ki := (k : Int) + 1) (fi := k) (ai := (m : Int) - k) (bi := (k : Int) + 1) (k := k + 1) (from_ := k) (above := m - k) (below := k + 1) (by omega) rfl (by omega) (by omega)
        (odds := oddU p) (Bw := w.heap.size + 1) (g := w.heap.size) (n := m + 1) (w := wr) (by omega) (by omega) (by omega) c1 r1 (hL.row (i := k + 1) (by omega)) (hL.frozen _) o3 o4 o5)
      have HN : Rows3 w m (fun i => if m ≤ i ∧ i ≤ k + 1 then raw m p i else 0) ((wr.setCell ⟨w.heap.size, k + 1, none⟩ (.float .f64 (raw m p (k + 1)))).drew) := by
        refine (hL.set (k + 1) (raw m p (k + 1)) fun j _ => ?_).drew
        by_cases hj : j = k + 1
        · subst hj; rw [if_pos rfl, if_pos ⟨by omega, Nat.le_refl _⟩]
        · rw [if_neg hj]
          by_cases hj2 : m ≤ j ∧ j ≤ k
          · rw [if_pos hj2, if_pos ⟨hj2.1, by omega⟩]
          · rw [if_neg hj2, if_neg (by omega)]
      clear o1 o2 o3 o4 o5 r1
      go_wp2_with (go_at_call 173; refine CP.out.mono ?_; rintro e w' ⟨rfl, rfl⟩)
      go_roundw
      case rel => exact ⟨k + 1, by omega, by omega, by go_num, HN⟩
      case measure => simp [intOf]; omega
    · have hkm' : k = m := by omega
      have HL2 : Rows3 w m (fun i => if m ≤ i then raw m p i else 0) wr := by
        refine hL.congr fun j hj => ?_
        by_cases hj2 : m ≤ j
        · rw [if_pos hj2, if_pos ⟨hj2, by omega⟩]
        · rw [if_neg hj2, if_neg (by omega)]
      clear hL hkm'
      go_wp2
      obtain ⟨wo, rfl⟩ : ∃ wo : World, wo = wr := ⟨_, rfl⟩
      go_loopw [10] (fun v wr => ∃ k : Nat, k ≤ m ∧ v = .int .i64 k ∧ Rows3 w m (fun i => if k ≤ i then raw m p i else 0) wr) (fun v _ => (intOf v).toNat)
      case atStart => exact ⟨m, Nat.le_refl _, rfl, HL2⟩
      case round =>
        clear HL2 hk1 hk2 hkm
        obtain ⟨k, hk1, rfl, hL⟩ := hrel
        cases k with
        | succ k =>
          obtain ⟨o1, o2, o3, o4, o5⟩ := raw_dn_ops h (k := k) (by rw [HK.out]; omega)
          have c1 := hL.box
          have hsub := fun ty W => run_float_arith (P := Try.prog) W .sub ty .f64 _ _ _ o1
          have hquo := fun ty W => run_float_arith (P := Try.prog) W .quo ty .f64 _ _ _ o2
          unfold one at hsub hquo
          have r1 := hL.row (i := k + 1) (by omega)
          rw [if_pos (Nat.le_refl _)] at r1
          have CP := Lib.hid (put_i (ki := (k : Int)) (fi := (k : Int) + 1) (ai := (k : Int) + 1) (bi := (m : Int) - (k + 1) + 1) (k := k) (from_ := k + 1) (above := k + 1) (below := m - (k + 1) + 1) rfl (by omega) (by omega) (by omega)
            (odds := oddD p) (Bw := w.heap.size + 1) (g := w.heap.size) (n := m + 1) (w := wr) (by omega) (by omega) (by omega) c1 r1 (hL.row (i := k) (by omega)) (hL.frozen _) o3 o4 o5)
          have HN : Rows3 w m (fun i => if k ≤ i then raw m p i else 0) ((wr.setCell ⟨w.heap.size, k, none⟩ (.float .f64 (raw m p k))).drew) := by
            refine (hL.set k (raw m p k) fun j _ => ?_).drew
            by_cases hj : j = k
            · subst hj; rw [if_pos rfl, if_pos (Nat.le_refl _)]
            · rw [if_neg hj]
              by_cases hj2 : k + 1 ≤ j
              · rw [if_pos hj2, if_pos (by omega)]
              · rw [if_neg hj2, if_neg (by omega)]
          clear o1 o2 o3 o4 o5 r1
          go_wp2_with (go_at_call 173; refine CP.out.mono ?_; rintro e w' ⟨rfl, rfl⟩)
          go_roundw
          case rel => exact ⟨k, by omega, by go_num, HN⟩
          case measure => simp [intOf]
        | zero =>
          have HL3 : Rows3 w m (raw m p) wr := hL.congr fun j _ => if_pos (Nat.zero_le j)
          clear hL hk1
          have c1 := HL3.box
          go_wp2
          obtain ⟨wo, rfl⟩ : ∃ wo : World, wo = wr := ⟨_, rfl⟩
          go_loop [11, 78] (fun s i => ∃ k : Nat, k ≤ m + 1 ∧ i = .int .i64 k ∧ s = .float .f64 (psum (raw m p) k)) (fun _ i => m + 1 - (intOf i).toNat)
          case atStart => exact ⟨0, Nat.zero_le _, rfl, rfl⟩
          case round =>
            obtain ⟨k, hk, rfl, rfl⟩ := hrel
            by_cases hkm : k < m + 1
            · have r1 := HL3.row hkm
              have hadd := fun ty W => run_float_arith (P := Try.prog) W .add ty .f64 _ _ _ (((psum_ok (n := m + 1) (by omega) (raw_all h) k (by omega)).2.2.2 hkm).1)
              have l2 : (k : Int) < (m : Int) + 1 := by omega
              go_wp2
              go_round
              case rel => exact ⟨k + 1, by omega, by go_num, rfl⟩
              case measure => simp [intOf]; omega
            · have l2 : ¬ (k : Int) < (m : Int) + 1 := by omega
              have hkk : k = m + 1 := by omega
              subst hkk
              go_wp2
              obtain ⟨wo, rfl⟩ : ∃ wo' : World, wo' = wo := ⟨_, rfl⟩
              go_loopw [88] (fun i wr => ∃ k : Nat, k ≤ m + 1 ∧ i = .int .i64 k ∧ Rows3 w m (fun j => if j < k then wt m p j else raw m p j) wr) (fun i _ => m + 1 - (intOf i).toNat)
              case atStart => exact ⟨0, Nat.zero_le _, rfl, HL3.congr fun j _ => by rw [if_neg (by omega)]⟩
              case round =>
                clear HL3 c1 l2 hk hkm
                obtain ⟨k, hk, rfl, hL⟩ := hrel
                have c1 := hL.box
                by_cases hkm : k < m + 1
                · have r1 := hL.row hkm
                  have f1 := hL.frozen k
                  rw [if_neg (Nat.lt_irrefl k)] at r1
                  have hq := (wt_ok h (k := k) (by omega)).1
                  unfold total at hq
                  have hquo := fun ty W => run_float_arith (P := Try.prog) W .quo ty .f64 _ _ _ hq
                  clear hq
                  have l2 : (k : Int) < (m : Int) + 1 := by omega
                  have HN : Rows3 w m (fun j => if j < k + 1 then wt m p j else raw m p j) (wr.setCell ⟨w.heap.size, k, none⟩ (.float .f64 (wt m p k))) := by
                    refine hL.set k (wt m p k) fun j _ => ?_
                    by_cases hj : j = k
                    · subst hj; rw [if_pos rfl, if_pos (by omega)]
                    · rw [if_neg hj]
                      by_cases hj2 : j < k
                      · rw [if_pos hj2, if_pos (by omega)]
                      · rw [if_neg hj2, if_neg (by omega)]
                  go_wp2
                  go_roundw
                  case rel => exact ⟨k + 1, by omega, by go_num, HN⟩
                  case measure => simp [intOf]; omega
                · have l2 : ¬ (k : Int) < (m : Int) + 1 := by omega
                  have HF : Rows3 w m (wt m p) wr := hL.congr fun j hj => if_pos (by omega)
                  clear hL
                  go_wp2
                  go_ret
                  exact ⟨rfl, HF.1, HF.2.2⟩

set_option maxHeartbeats 2000000 in
set_option maxRecDepth 100000 in
theorem weights_z (m z : Nat) (w : World) (h : Ok m 0) (n : Nat) (st : Begun m 0 n) (hlt : n < m)
    (hz : (FloatKind.f64.format.order z 0 == some Ordering.eq) = true)
    (hl : (FloatKind.f64.format.order (floorB (prod1 m 0)) (floatOfInt .f64 (m : Int)) == some Ordering.lt) = true) :
    Calls Try.prog 150 #[.int .i64 m, .float .f64 z] w fun e w' => e = .returned (.slice (some ⟨w.heap.size, 0, none⟩) (m + 1) (m + 1)) ∧
      w'.rowIs w.heap.size 77 (m + 1) (fl (wt m 0)) ∧ Below w.heap.size w w' := by
  have hm := h.m
  have hmk : ∀ W, (Instr.makeSlice 74 (.int .i64 ((m : Int) + 1)) (.int .i64 ((m : Int) + 1))).run Try.prog W = .ok (.slice (some ⟨W.heap.size, 0, none⟩) (m + 1) (m + 1)) (W.alloc (.cells (madeCells #[.float .f64 0] (m + 1)) 77)) :=
    fun W => by have := run_mk (m + 1) (by omega) W; rw [show ((m + 1 : Nat) : Int) = (m : Int) + 1 by omega] at this; exact this
  have hmul : ∀ ty W, (binOp .mul ty (.float .f64 (floatOfInt .f64 ((m : Int) + 1))) (.float .f64 0)).run Try.prog W = .ok (.float .f64 (prod1 m 0)) W := by
    intro ty W
    have := run_float_arith (P := Try.prog) W .mul ty .f64 _ _ _ st.mul
    rw [show ((m + 1 : Nat) : Int) = (m : Int) + 1 by omega] at this
    exact this
  obtain ⟨s, mm, e, hd, he⟩ := st.num
  have hconv : ∀ W, (convert 77 3 (.float .f64 (floorB (prod1 m 0)))).run Try.prog W = .ok (.int .i64 (n : Int)) W :=
    fun W => run_convert_float_int W 77 3 .f64 .i64 _ _ (by rw [Try.underlying77]; rfl) Try.underlying3 st.int
  have HC := Lib.hid (fun W => floor_any (prod1 m 0) W s mm e hd)
  rw [he] at HC
  have HE := Lib.hid he
  have ST := Lib.hid st
  clear he hd st
  have l1 : (n : Int) < (m : Int) + 1 := by omega
  have hK : kz m 0 = n := by rw [ST.out.kz]; omega
  have HK := Lib.hid hK
  clear hK
  have R0 := ((World.rowIs_made w (.float .f64 0) (m + 1) 77).alloc (.cells #[Value.slice (some ⟨w.heap.size, 0, none⟩) (m + 1) (m + 1)] 74))
  have hc1 := R0.cell (i := n) (by omega)
  have hf1 := R0.frozen n
  have HR := Lib.hid R0
  clear R0
  go_enter Try.func150, Try.ntmps150
  go_wp2_with (go_at_call 172; refine (HC.out _).mono ?_; rintro e w' ⟨rfl, rfl⟩)
  have HL : Rows3 w m (fun i => if n ≤ i ∧ i ≤ n then raw m 0 i else 0) (((w.alloc (.cells (madeCells #[Value.float .f64 0] (m + 1)) 77)).alloc (.cells #[Value.slice (some ⟨w.heap.size, 0, none⟩) (m + 1) (m + 1)] 74)).setCell ⟨w.heap.size, n, none⟩ (.float .f64 4607182418800017408)) := by
    refine Rows3.set (f := fun _ => 0) ⟨HR.out, ?_, ?_⟩ n 4607182418800017408 ?_
    · have := World.rowIs_alloc (w.alloc (.cells (madeCells #[Value.float .f64 0] (m + 1)) 77)) #[Value.slice (some ⟨w.heap.size, 0, none⟩) (m + 1) (m + 1)] 74 (fun _ => Value.slice (some ⟨w.heap.size, 0, none⟩) (m + 1) (m + 1)) (by intro i hi; simp at hi; subst hi; rfl)
      simpa using this
    · exact ((Below.refl _ w).alloc (Nat.le_refl _) _).alloc (by simp) _
    · intro j _
      by_cases hj : j = n
      · have hr := raw_kz m 0; rw [HK.out] at hr; rw [hj, if_pos rfl, if_pos ⟨Nat.le_refl _, Nat.le_refl _⟩, hr]; rfl
      · rw [if_neg hj, if_neg (by omega)]
  rw [World.setCell_alloc_past _ _ _ _ (by simp), World.setCell_alloc_at _ _ _ _ _ rfl] at HL
  go_loopw [9] (fun v wr => ∃ k : Nat, n ≤ k ∧ k ≤ m ∧ v = .int .i64 k ∧ Rows3 w m (fun i => if n ≤ i ∧ i ≤ k then raw m 0 i else 0) wr) (fun v _ => m - (intOf v).toNat)
  case atStart => exact ⟨n, Nat.le_refl _, by omega, rfl, HL⟩
  case round =>
    clear HL hc1 hf1 hmul hconv hmk
    obtain ⟨k, hk1, hk2, rfl, hL⟩ := hrel
    by_cases hkm : k < m
    · obtain ⟨o1, o2, o3, o4, o5⟩ := raw_up_ops h (k := k) (by rw [HK.out]; exact hk1) hkm
      have c1 := hL.box
      have hsub := fun ty W => run_float_arith (P := Try.prog) W .sub ty .f64 _ _ _ o1
      have hquo := fun ty W => run_float_arith (P := Try.prog) W .quo ty .f64 _ _ _ o2
      unfold one at hsub hquo
      have r1 := hL.row (i := k) (by omega)
      rw [if_pos ⟨hk1, Nat.le_refl _⟩] at r1
      have CP := Lib.hid (put_i (ki := (k : Int) + 1) (fi := k) (ai := (m : Int) - k) (bi := (k : Int) + 1) (k := k + 1) (from_ := k) (above := m - k) (below := k + 1) (by omega) rfl (by omega) (by omega)
        (odds := oddU 0) (Bw := w.heap.size + 1) (g := w.heap.size) (n := m + 1) (w := wr) (by omega) (by omega) (by omega) c1 r1 (hL.row (i := k + 1) (by omega)) (hL.frozen _) o3 o4 o5)
      have HN : Rows3 w m (fun i => if n ≤ i ∧ i ≤ k + 1 then raw m 0 i else 0) ((wr.setCell ⟨w.heap.size, k + 1, none⟩ (.float .f64 (raw m 0 (k + 1)))).drew) := by
        refine (hL.set (k + 1) (raw m 0 (k + 1)) fun j _ => ?_).drew
        by_cases hj : j = k + 1
        · subst hj; rw [if_pos rfl, if_pos ⟨by omega, Nat.le_refl _⟩]
        · rw [if_neg hj]
          by_cases hj2 : n ≤ j ∧ j ≤ k
          · rw [if_pos hj2, if_pos ⟨hj2.1, by omega⟩]
          · rw [if_neg hj2, if_neg (by omega)]
      clear o1 o2 o3 o4 o5 r1
      go_wp2_with (go_at_call 173; refine CP.out.mono ?_; rintro e w' ⟨rfl, rfl⟩)
      go_roundw
      case rel => exact ⟨k + 1, by omega, by omega, by go_num, HN⟩
      case measure => simp [intOf]; omega
    · have hkm' : k = m := by omega
      have HL2 : Rows3 w m (fun i => if n ≤ i then raw m 0 i else 0) wr := by
        refine hL.congr fun j hj => ?_
        by_cases hj2 : n ≤ j
        · rw [if_pos hj2, if_pos ⟨hj2, by omega⟩]
        · rw [if_neg hj2, if_neg (by omega)]
      clear hL hkm'
      go_wp2
      obtain ⟨wo, rfl⟩ : ∃ wo : World, wo = wr := ⟨_, rfl⟩
      go_loopw [10] (fun v wr => ∃ k : Nat, k ≤ n ∧ v = .int .i64 k ∧ Rows3 w m (fun i => if k ≤ i then raw m 0 i else 0) wr) (fun v _ => (intOf v).toNat)
      case atStart => exact ⟨n, Nat.le_refl _, rfl, HL2⟩
      case round =>
        clear HL2 hk1 hk2 hkm
        obtain ⟨k, hk1, rfl, hL⟩ := hrel
        cases k with
        | succ k =>
          obtain ⟨o1, o2, o3, o4, o5⟩ := raw_dn_ops h (k := k) (by rw [HK.out]; omega)
          have c1 := hL.box
          have hsub := fun ty W => run_float_arith (P := Try.prog) W .sub ty .f64 _ _ _ o1
          have hquo := fun ty W => run_float_arith (P := Try.prog) W .quo ty .f64 _ _ _ o2
          unfold one at hsub hquo
          have r1 := hL.row (i := k + 1) (by omega)
          rw [if_pos (Nat.le_refl _)] at r1
          have CP := Lib.hid (put_i (ki := (k : Int)) (fi := (k : Int) + 1) (ai := (k : Int) + 1) (bi := (m : Int) - (k + 1) + 1) (k := k) (from_ := k + 1) (above := k + 1) (below := m - (k + 1) + 1) rfl (by omega) (by omega) (by omega)
            (odds := oddD 0) (Bw := w.heap.size + 1) (g := w.heap.size) (n := m + 1) (w := wr) (by omega) (by omega) (by omega) c1 r1 (hL.row (i := k) (by omega)) (hL.frozen _) o3 o4 o5)
          have HN : Rows3 w m (fun i => if k ≤ i then raw m 0 i else 0) ((wr.setCell ⟨w.heap.size, k, none⟩ (.float .f64 (raw m 0 k))).drew) := by
            refine (hL.set k (raw m 0 k) fun j _ => ?_).drew
            by_cases hj : j = k
            · subst hj; rw [if_pos rfl, if_pos (Nat.le_refl _)]
            · rw [if_neg hj]
              by_cases hj2 : k + 1 ≤ j
              · rw [if_pos hj2, if_pos (by omega)]
              · rw [if_neg hj2, if_neg (by omega)]
          clear o1 o2 o3 o4 o5 r1
          go_wp2_with (go_at_call 173; refine CP.out.mono ?_; rintro e w' ⟨rfl, rfl⟩)
          go_roundw
          case rel => exact ⟨k, by omega, by go_num, HN⟩
          case measure => simp [intOf]
        | zero =>
          have HL3 : Rows3 w m (raw m 0) wr := hL.congr fun j _ => if_pos (Nat.zero_le j)
          clear hL hk1
          have c1 := HL3.box
          go_wp2
          obtain ⟨wo, rfl⟩ : ∃ wo : World, wo = wr := ⟨_, rfl⟩
          go_loop [11, 78] (fun s i => ∃ k : Nat, k ≤ m + 1 ∧ i = .int .i64 k ∧ s = .float .f64 (psum (raw m 0) k)) (fun _ i => m + 1 - (intOf i).toNat)
          case atStart => exact ⟨0, Nat.zero_le _, rfl, rfl⟩
          case round =>
            obtain ⟨k, hk, rfl, rfl⟩ := hrel
            by_cases hkm : k < m + 1
            · have r1 := HL3.row hkm
              have hadd := fun ty W => run_float_arith (P := Try.prog) W .add ty .f64 _ _ _ (((psum_ok (n := m + 1) (by omega) (raw_all h) k (by omega)).2.2.2 hkm).1)
              have l2 : (k : Int) < (m : Int) + 1 := by omega
              go_wp2
              go_round
              case rel => exact ⟨k + 1, by omega, by go_num, rfl⟩
              case measure => simp [intOf]; omega
            · have l2 : ¬ (k : Int) < (m : Int) + 1 := by omega
              have hkk : k = m + 1 := by omega
              subst hkk
              go_wp2
              obtain ⟨wo, rfl⟩ : ∃ wo' : World, wo' = wo := ⟨_, rfl⟩
              go_loopw [88] (fun i wr => ∃ k : Nat, k ≤ m + 1 ∧ i = .int .i64 k ∧ Rows3 w m (fun j => if j < k then wt m 0 j else raw m 0 j) wr) (fun i _ => m + 1 - (intOf i).toNat)
              case atStart => exact ⟨0, Nat.zero_le _, rfl, HL3.congr fun j _ => by rw [if_neg (by omega)]⟩
              case round =>
                clear HL3 c1 l2 hk hkm
                obtain ⟨k, hk, rfl, hL⟩ := hrel
                have c1 := hL.box
                by_cases hkm : k < m + 1
                · have r1 := hL.row hkm
                  have f1 := hL.frozen k
                  rw [if_neg (Nat.lt_irrefl k)] at r1
                  have hq := (wt_ok h (k := k) (by omega)).1
                  unfold total at hq
                  have hquo := fun ty W => run_float_arith (P := Try.prog) W .quo ty .f64 _ _ _ hq
                  clear hq
                  have l2 : (k : Int) < (m : Int) + 1 := by omega
                  have HN : Rows3 w m (fun j => if j < k + 1 then wt m 0 j else raw m 0 j) (wr.setCell ⟨w.heap.size, k, none⟩ (.float .f64 (wt m 0 k))) := by
                    refine hL.set k (wt m 0 k) fun j _ => ?_
                    by_cases hj : j = k
                    · subst hj; rw [if_pos rfl, if_pos (by omega)]
                    · rw [if_neg hj]
                      by_cases hj2 : j < k
                      · rw [if_pos hj2, if_pos (by omega)]
                      · rw [if_neg hj2, if_neg (by omega)]
                  go_wp2
                  go_roundw
                  case rel => exact ⟨k + 1, by omega, by go_num, HN⟩
                  case measure => simp [intOf]; omega
                · have l2 : ¬ (k : Int) < (m : Int) + 1 := by omega
                  have HF : Rows3 w m (wt m 0) wr := hL.congr fun j hj => if_pos (by omega)
                  clear hL
                  go_wp2
                  go_ret
                  exact ⟨rfl, HF.1, HF.2.2⟩

set_option maxHeartbeats 2000000 in
set_option maxRecDepth 100000 in
theorem weights_d (m z : Nat) (w : World) (h : Ok m 0) (n : Nat) (st : Begun m 0 n) (hlt : m ≤ n)
    (hz : (FloatKind.f64.format.order z 0 == some Ordering.eq) = true)
    (hl : (FloatKind.f64.format.order (floorB (prod1 m 0)) (floatOfInt .f64 (m : Int)) == some Ordering.lt) = false) :
    Calls Try.prog 150 #[.int .i64 m, .float .f64 z] w fun e w' => e = .returned (.slice (some ⟨w.heap.size, 0, none⟩) (m + 1) (m + 1)) ∧
      w'.rowIs w.heap.size 77 (m + 1) (fl (wt m 0)) ∧ Below w.heap.size w w' := by
  have hm := h.m
  have hmk : ∀ W, (Instr.makeSlice 74 (.int .i64 ((m : Int) + 1)) (.int .i64 ((m : Int) + 1))).run Try.prog W = .ok (.slice (some ⟨W.heap.size, 0, none⟩) (m + 1) (m + 1)) (W.alloc (.cells (madeCells #[.float .f64 0] (m + 1)) 77)) :=
    fun W => by have := run_mk (m + 1) (by omega) W; rw [show ((m + 1 : Nat) : Int) = (m : Int) + 1 by omega] at this; exact this
  have hmul : ∀ ty W, (binOp .mul ty (.float .f64 (floatOfInt .f64 ((m : Int) + 1))) (.float .f64 0)).run Try.prog W = .ok (.float .f64 (prod1 m 0)) W := by
    intro ty W
    have := run_float_arith (P := Try.prog) W .mul ty .f64 _ _ _ st.mul
    rw [show ((m + 1 : Nat) : Int) = (m : Int) + 1 by omega] at this
    exact this
  obtain ⟨s, mm, e, hd, he⟩ := st.num
  have HC := Lib.hid (fun W => floor_any (prod1 m 0) W s mm e hd)
  rw [he] at HC
  have HE := Lib.hid he
  have ST := Lib.hid st
  clear he hd st
  have l1 : (m : Int) < (m : Int) + 1 := by omega
  have hK : kz m 0 = m := by rw [ST.out.kz]; omega
  have HK := Lib.hid hK
  clear hK
  have R0 := ((World.rowIs_made w (.float .f64 0) (m + 1) 77).alloc (.cells #[Value.slice (some ⟨w.heap.size, 0, none⟩) (m + 1) (m + 1)] 74))
  have hc1 := R0.cell (i := m) (by omega)
  have hf1 := R0.frozen m
  have HR := Lib.hid R0
  clear R0
  go_enter Try.func150, Try.ntmps150
  go_wp2_with (go_at_call 172; refine (HC.out _).mono ?_; rintro e w' ⟨rfl, rfl⟩)
  have HL : Rows3 w m (fun i => if m ≤ i ∧ i ≤ m then raw m 0 i else 0) (((w.alloc (.cells (madeCells #[Value.float .f64 0] (m + 1)) 77)).alloc (.cells #[Value.slice (some ⟨w.heap.size, 0, none⟩) (m + 1) (m + 1)] 74)).setCell ⟨w.heap.size, m, none⟩ (.float .f64 4607182418800017408)) := by
    refine Rows3.set (f := fun _ => 0) ⟨HR.out, ?_, ?_⟩ m 4607182418800017408 ?_
    · have := World.rowIs_alloc (w.alloc (.cells (madeCells #[Value.float .f64 0] (m + 1)) 77)) #[Value.slice (some ⟨w.heap.size, 0, none⟩) (m + 1) (m + 1)] 74 (fun _ => Value.slice (some ⟨w.heap.size, 0, none⟩) (m + 1) (m + 1)) (by intro i hi; simp at hi; subst hi; rfl)
      simpa using this
    · exact ((Below.refl _ w).alloc (Nat.le_refl _) _).alloc (by simp) _
    · intro j _
      by_cases hj : j = m
      · have hr := raw_kz m 0; rw [HK.out] at hr; rw [hj, if_pos rfl, if_pos ⟨Nat.le_refl _, Nat.le_refl _⟩, hr]; rfl
      · rw [if_neg hj, if_neg (by omega)]
  rw [World.setCell_alloc_past _ _ _ _ (by simp), World.setCell_alloc_at _ _ _ _ _ rfl] at HL
  go_loopw [9] (fun v wr => ∃ k : Nat, m ≤ k ∧ k ≤ m ∧ v = .int .i64 k ∧ Rows3 w m (fun i => if m ≤ i ∧ i ≤ k then raw m 0 i else 0) wr) (fun v _ => m - (intOf v).toNat)
  case atStart => exact ⟨m, Nat.le_refl _, by omega, rfl, HL⟩
  case round =>
    clear HL hc1 hf1 hmul hmk
    obtain ⟨k, hk1, hk2, rfl, hL⟩ := hrel
    by_cases hkm : k < m
    · obtain ⟨o1, o2, o3, o4, o5⟩ := raw_up_ops h (k := k) (by rw [HK.out]; exact hk1) hkm
      have c1 := hL.box
      have hsub := fun ty W => run_float_arith (P := Try.prog) W .sub ty .f64 _ _ _ o1
      have hquo := fun ty W => run_float_arith (P := Try.prog) W .quo ty .f64 _ _ _ o2
      unfold one at hsub hquo
      have r1 := hL.row (i := k) (by omega)
      rw [if_pos ⟨hk1, Nat.le_refl _⟩] at r1
      have CP := Lib.hid (put_i (ki := (k : Int) + 1) (fi := k) (ai := (m : Int) - k) (bi := (k : Int) + 1) (k := k + 1) (from_ := k) (above := m - k) (below := k + 1) (by omega) rfl (by omega) (by omega)
        (odds := oddU 0) (Bw := w.heap.size + 1) (g := w.heap.size) (n := m + 1) (w := wr) (by omega) (by omega) (by omega) c1 r1 (hL.row (i := k + 1) (by omega)) (hL.frozen _) o3 o4 o5)
      have HN : Rows3 w m (fun i => if m ≤ i ∧ i ≤ k + 1 then raw m 0 i else 0) ((wr.setCell ⟨w.heap.size, k + 1, none⟩ (.float .f64 (raw m 0 (k + 1)))).drew) := by
        refine (hL.set (k + 1) (raw m 0 (k + 1)) fun j _ => ?_).drew
        by_cases hj : j = k + 1
        · subst hj; rw [if_pos rfl, if_pos ⟨by omega, Nat.le_refl _⟩]
        · rw [if_neg hj]
          by_cases hj2 : m ≤ j ∧ j ≤ k
          · rw [if_pos hj2, if_pos ⟨hj2.1, by omega⟩]
          · rw [if_neg hj2, if_neg (by omega)]
      clear o1 o2 o3 o4 o5 r1
      go_wp2_with (go_at_call 173; refine CP.out.mono ?_; rintro e w' ⟨rfl, rfl⟩)
      go_roundw
      case rel => exact ⟨k + 1, by omega, by omega, by go_num, HN⟩
      case measure => simp [intOf]; omega
    · have hkm' : k = m := by omega
      have HL2 : Rows3 w m (fun i => if m ≤ i then raw m 0 i else 0) wr := by
        refine hL.congr fun j hj => ?_
        by_cases hj2 : m ≤ j
        · rw [if_pos hj2, if_pos ⟨hj2, by omega⟩]
        · rw [if_neg hj2, if_neg (by omega)]
      clear hL hkm'
      go_wp2
      obtain ⟨wo, rfl⟩ : ∃ wo : World, wo = wr := ⟨_, rfl⟩
      go_loopw [10] (fun v wr => ∃ k : Nat, k ≤ m ∧ v = .int .i64 k ∧ Rows3 w m (fun i => if k ≤ i then raw m 0 i else 0) wr) (fun v _ => (intOf v).toNat)
      case atStart => exact ⟨m, Nat.le_refl _, rfl, HL2⟩
      case round =>
        clear HL2 hk1 hk2 hkm
        obtain ⟨k, hk1, rfl, hL⟩ := hrel
        cases k with
        | succ k =>
          obtain ⟨o1, o2, o3, o4, o5⟩ := raw_dn_ops h (k := k) (by rw [HK.out]; omega)
          have c1 := hL.box
          have hsub := fun ty W => run_float_arith (P := Try.prog) W .sub ty .f64 _ _ _ o1
          have hquo := fun ty W => run_float_arith (P := Try.prog) W .quo ty .f64 _ _ _ o2
          unfold one at hsub hquo
          have r1 := hL.row (i := k + 1) (by omega)
          rw [if_pos (Nat.le_refl _)] at r1
          have CP := Lib.hid (put_i (ki := (k : Int)) (fi := (k : Int) + 1) (ai := (k : Int) + 1) (bi := (m : Int) - (k + 1) + 1) (k := k) (from_ := k + 1) (above := k + 1) (below := m - (k + 1) + 1) rfl (by omega) (by omega) (by omega)
            (odds := oddD 0) (Bw := w.heap.size + 1) (g := w.heap.size) (n := m + 1) (w := wr) (by omega) (by omega) (by omega) c1 r1 (hL.row (i := k) (by omega)) (hL.frozen _) o3 o4 o5)
          have HN : Rows3 w m (fun i => if k ≤ i then raw m 0 i else 0) ((wr.setCell ⟨w.heap.size, k, none⟩ (.float .f64 (raw m 0 k))).drew) := by
            refine (hL.set k (raw m 0 k) fun j _ => ?_).drew
            by_cases hj : j = k
            · subst hj; rw [if_pos rfl, if_pos (Nat.le_refl _)]
            · rw [if_neg hj]
              by_cases hj2 : k + 1 ≤ j
              · rw [if_pos hj2, if_pos (by omega)]
              · rw [if_neg hj2, if_neg (by omega)]
          clear o1 o2 o3 o4 o5 r1
          go_wp2_with (go_at_call 173; refine CP.out.mono ?_; rintro e w' ⟨rfl, rfl⟩)
          go_roundw
          case rel => exact ⟨k, by omega, by go_num, HN⟩
          case measure => simp [intOf]
        | zero =>
          have HL3 : Rows3 w m (raw m 0) wr := hL.congr fun j _ => if_pos (Nat.zero_le j)
          clear hL hk1
          have c1 := HL3.box
          go_wp2
          obtain ⟨wo, rfl⟩ : ∃ wo : World, wo = wr := ⟨_, rfl⟩
          go_loop [11, 78] (fun s i => ∃ k : Nat, k ≤ m + 1 ∧ i = .int .i64 k ∧ s = .float .f64 (psum (raw m 0) k)) (fun _ i => m + 1 - (intOf i).toNat)
          case atStart => exact ⟨0, Nat.zero_le _, rfl, rfl⟩
          case round =>
            obtain ⟨k, hk, rfl, rfl⟩ := hrel
            by_cases hkm : k < m + 1
            · have r1 := HL3.row hkm
              have hadd := fun ty W => run_float_arith (P := Try.prog) W .add ty .f64 _ _ _ (((psum_ok (n := m + 1) (by omega) (raw_all h) k (by omega)).2.2.2 hkm).1)
              have l2 : (k : Int) < (m : Int) + 1 := by omega
              go_wp2
              go_round
              case rel => exact ⟨k + 1, by omega, by go_num, rfl⟩
              case measure => simp [intOf]; omega
            · have l2 : ¬ (k : Int) < (m : Int) + 1 := by omega
              have hkk : k = m + 1 := by omega
              subst hkk
              go_wp2
              obtain ⟨wo, rfl⟩ : ∃ wo' : World, wo' = wo := ⟨_, rfl⟩
              go_loopw [88] (fun i wr => ∃ k : Nat, k ≤ m + 1 ∧ i = .int .i64 k ∧ Rows3 w m (fun j => if j < k then wt m 0 j else raw m 0 j) wr) (fun i _ => m + 1 - (intOf i).toNat)
              case atStart => exact ⟨0, Nat.zero_le _, rfl, HL3.congr fun j _ => by rw [if_neg (by omega)]⟩
              case round =>
                clear HL3 c1 l2 hk hkm
                obtain ⟨k, hk, rfl, hL⟩ := hrel
                have c1 := hL.box
                by_cases hkm : k < m + 1
                · have r1 := hL.row hkm
                  have f1 := hL.frozen k
                  rw [if_neg (Nat.lt_irrefl k)] at r1
                  have hq := (wt_ok h (k := k) (by omega)).1
                  unfold total at hq
                  have hquo := fun ty W => run_float_arith (P := Try.prog) W .quo ty .f64 _ _ _ hq
                  clear hq
                  have l2 : (k : Int) < (m : Int) + 1 := by omega
                  have HN : Rows3 w m (fun j => if j < k + 1 then wt m 0 j else raw m 0 j) (wr.setCell ⟨w.heap.size, k, none⟩ (.float .f64 (wt m 0 k))) := by
                    refine hL.set k (wt m 0 k) fun j _ => ?_
                    by_cases hj : j = k
                    · subst hj; rw [if_pos rfl, if_pos (by omega)]
                    · rw [if_neg hj]
                      by_cases hj2 : j < k
                      · rw [if_pos hj2, if_pos (by omega)]
                      · rw [if_neg hj2, if_neg (by omega)]
                  go_wp2
                  go_roundw
                  case rel => exact ⟨k + 1, by omega, by go_num, HN⟩
                  case measure => simp [intOf]; omega
                · have l2 : ¬ (k : Int) < (m : Int) + 1 := by omega
                  have HF : Rows3 w m (wt m 0) wr := hL.congr fun j hj => if_pos (by omega)
                  clear hL
                  go_wp2
                  go_ret
                  exact ⟨rfl, HF.1, HF.2.2⟩

end Go.Proofs.Ytbafacdknaopjaa.X

/-
  The walk through the reference's weights, and the two lists set side by side.
-/
namespace Go.Proofs.Ytbafacdknaopjaa.X
open Go.RowKit Go.Fl Go.Deep

/-- What lies in memory between two rounds of the reference: the row, and nothing old has turned. -/
def Rows2 (w : World) (m : Nat) (f : Nat → Nat) (wr : World) : Prop := wr.rowIs w.heap.size 77 (m + 1) (fl f) ∧ Below w.heap.size w wr

theorem Rows2.row {w wr : World} {m i : Nat} {f : Nat → Nat} (h : Rows2 w m f wr) (hi : i < m + 1) : wr.cell? ⟨w.heap.size, i, none⟩ = some (.float .f64 (f i)) := h.1.cell hi

theorem Rows2.frozen {w wr : World} {m : Nat} {f : Nat → Nat} (h : Rows2 w m f wr) (i : Nat) : wr.frozen? ⟨w.heap.size, i, none⟩ = false := h.1.frozen i

theorem Rows2.set {w wr : World} {m : Nat} {f g : Nat → Nat} (h : Rows2 w m f wr) (i x : Nat) (hg : ∀ j, j < m + 1 → (if j = i then x else f j) = g j) :
    Rows2 w m g (wr.setCell ⟨w.heap.size, i, none⟩ (.float .f64 x)) := by
  refine ⟨(h.1.set i (.float .f64 x)).congr fun j hj => ?_, h.2.setCell (Nat.le_refl _) _⟩
  unfold fl
  rw [← hg j hj]
  split <;> rfl

theorem Rows2.congr {w wr : World} {m : Nat} {f g : Nat → Nat} (h : Rows2 w m f wr) (hg : ∀ j, j < m + 1 → f j = g j) : Rows2 w m g wr :=
  ⟨h.1.congr fun j hj => by unfold fl; rw [hg j hj], h.2⟩

attribute [local go_sem] run_store_float

/-! ### The two functions at every probability -/

theorem abs_of_zero {p : Nat} (h : isFin p) (h0 : fv p = 0) : absb p = 0 := by
  obtain ⟨q, k, hw, hq, hk, hq2, hr⟩ := read_fin h
  unfold fv at h0; rw [hr] at h0
  have h1 : (sg (p / 2 ^ 63 % 2 == 1) (mv k ((q : Int) - 1074))).abs = 0 := by
    have : sg (p / 2 ^ 63 % 2 == 1) (mv k ((q : Int) - 1074)) = 0 := h0
    rw [this]; exact Rat.abs_zero
  rw [abs_sg] at h1
  have h2 : mv k ((q : Int) - 1074) = mv 0 ((q : Int) - 1074) := by rw [h1, mv_zero]
  have h3 := mv_inj.1 h2
  unfold absb; omega

theorem abs_of_pos {p : Nat} (h : isFin p) (h0 : 0 < fv p) : absb p = p := by
  obtain ⟨q, k, hw, hq, hk, hq2, hr⟩ := read_fin h
  unfold fv at h0; rw [hr] at h0
  have hm := mv_nonneg k ((q : Int) - 1074)
  have hlt := h.1
  unfold absb
  by_cases hs : p / 2 ^ 63 % 2 = 1
  · exfalso
    have : (p / 2 ^ 63 % 2 == 1) = true := by simpa using hs
    rw [this] at h0
    have h1 : 0 < -mv k ((q : Int) - 1074) := h0
    grind
  · omega

/-- Of a probability: its amount is one, too. -/
theorem ok_abs {m p : Nat} (hm : m ≤ 16384) (hp : p < 2 ^ 64) (h : prob p = true) : Ok m (absb p) := by
  obtain ⟨hf, h0, h1⟩ := prob_fin hp h
  have e := fv_abs hf
  rw [Rat.abs_of_nonneg h0] at e
  exact ⟨hm, isFin_abs hf, by rw [e]; exact h0, by rw [e]; exact h1⟩

theorem begun_lt {m p n : Nat} (h : Ok m p) (st : Begun m p n) : (FloatKind.f64.format.order (floorB (prod1 m p)) (floatOfInt .f64 (m : Int)) == some Ordering.lt) = decide (n < m) := by
  obtain ⟨fm, vm⟩ := ofN_ok m (by have := h.m; omega)
  have h1 := flt_iff st.fl.1 fm
  rw [st.fl.2, vm] at h1
  rw [Bool.eq_iff_iff]
  have h2 : ((n : Rat) < (m : Rat)) ↔ n < m := Rat.natCast_lt_natCast
  rw [decide_eq_true_iff, ← h2]
  exact h1

def Made (m p : Nat) (w : World) (e : Ending) (w' : World) : Prop :=
  e = .returned (.slice (some ⟨w.heap.size, 0, none⟩) (m + 1) (m + 1)) ∧ w'.rowIs w.heap.size 77 (m + 1) (fl (wt m (absb p))) ∧ Below w.heap.size w w'

/-- canon.weights. -/
theorem weights_c (m p : Nat) (w : World) (hm : m ≤ 16384) (hp : p < 2 ^ 64) (h : prob p = true) : Calls Try.prog 150 #[.int .i64 m, .float .f64 p] w (Made m p w) := by
  have ok := ok_abs hm hp h
  obtain ⟨n, st⟩ := ok.start
  have hl := begun_lt ok st
  obtain ⟨hf, h0, _⟩ := prob_fin hp h
  have hz : (FloatKind.f64.format.order p 0 == some Ordering.eq) = true ↔ fv p = fv 0 := feq_iff hf isFin_zero
  rw [fv_zero] at hz
  by_cases hz0 : fv p = 0
  · have e := abs_of_zero hf hz0
    unfold Made
    rw [e] at ok st hl ⊢
    by_cases hlt : n < m
    · rw [decide_eq_true hlt] at hl
      exact weights_z m p w ok n st hlt (hz.2 hz0) hl
    · rw [decide_eq_false hlt] at hl
      exact weights_d m p w ok n st (by omega) (hz.2 hz0) hl
  · have e := abs_of_pos hf (by grind)
    have hz1 : (FloatKind.f64.format.order p 0 == some Ordering.eq) = false := by
      rw [Bool.eq_false_iff]; intro h; exact hz0 (hz.1 h)
    unfold Made
    rw [e] at ok st hl ⊢
    by_cases hlt : n < m
    · rw [decide_eq_true hlt] at hl
      exact weights_a m p w ok n st hlt hz1 hl
    · rw [decide_eq_false hlt] at hl
      exact weights_b m p w ok n st (by omega) hz1 hl

end Go.Proofs.Ytbafacdknaopjaa.X

/-
  The sums over a sequence function: the loop bodies, the whole sums, their difference.
-/
namespace Go.Proofs.Ytbafacdknaopjaa.X
open Go.RowKit Go.Fl Go.Deep Go.Shelf

attribute [local go_sem] Oper.semAt_some

/-- The cells from 'off' on are these floats. -/
def FloatsAt (W : World) (b off len : Nat) (f : Nat → Nat) : Prop := ∀ j, j < len → W.cell? ⟨b, off + j, none⟩ = some (.float .f64 (f j))

set_option maxHeartbeats 1000000 in
/-- The closure of Average: the k-th value. -/
theorem value_in (F : Fence) (n : Nat) (h87 : F.fn 149) (hro : F.round = none) (k Bs b off len cap : Nat) (f : Nat → Nat) (W : World) (hk : k < len) (_hlen : len ≤ 16385)
    (hBs : W.cell? ⟨Bs, 0, none⟩ = some (.slice (some ⟨b, off, none⟩) len cap)) (hc : FloatsAt W b off len f) :
    CallsIn F n Try.prog 149 #[.int .i64 k, .pointer (some ⟨Bs, 0, none⟩)] W fun e W' => e = .returned (.float .f64 (f k)) ∧ W = W' := by
  have hc1 := hc k hk
  have l1 : (k : Int) < (len : Int) := by omega
  clear hc
  refine callsIn_of_wp Try.func149 rfl h87 ?_ hro
  simp only [Try.ntmps149, List.size_toArray, List.length_cons, List.length_nil, Nat.reduceAdd, Nat.reduceSub, Array.replicate_succ, Array.replicate_zero, List.push_toArray, List.append_toArray, List.nil_append, List.cons_append]
  gi_wp2
  go_ret
  exact ⟨rfl, rfl⟩

set_option maxRecDepth 100000 in
set_option maxHeartbeats 2000000 in
/-- The iterator of terms, at the values of a list. -/
theorem terms1_in (F : Fence) (n : Nat) (h88 : F.fn 171) (h87 : F.fn 149) (hro : F.round = none) (hn : 2 ≤ n) (l Bv Bx Bs bv b off len cap n₀ : Nat) (f v t : Nat → Nat) (hlen : len ≤ 16385)
    (_hb1 : Bv < n₀) (hb2 : Bx < n₀) (hb3 : Bs < n₀) (hb4 : bv < n₀) (hb5 : b < n₀)
    (ht : ∀ k, k < len → floatBits .mul .f64 (f k) (v k) = some (t k)) (J Jx : List Nat → World → Prop)
    (hY : ∀ pre x W, J pre W → pre.length < len → YieldAt F (n - 1) Try.prog l #[.float .f64 (t x)] W fun e W' =>
      (e = .returned (.bool true) ∧ J (pre ++ [x]) W' ∧ Below n₀ W W') ∨ (e = .returned (.bool false) ∧ Jx (pre ++ [x]) W'))
    (W : World) (hBv : W.cell? ⟨Bv, 0, none⟩ = some (.slice (some ⟨bv, 0, none⟩) len len)) (hBx : W.cell? ⟨Bx, 0, none⟩ = some (.func (.func 149) #[] #[.pointer (some ⟨Bs, 0, none⟩)]))
    (hBs : W.cell? ⟨Bs, 0, none⟩ = some (.slice (some ⟨b, off, none⟩) len cap)) (hv : ∀ j, j < len → W.cell? ⟨bv, j, none⟩ = some (.float .f64 (v j))) (hc : FloatsAt W b off len f) (h0 : J [] W) :
    CallsIn F n Try.prog 171 #[.func (.yield l) #[] #[], .pointer (some ⟨Bv, 0, none⟩), .pointer (some ⟨Bx, 0, none⟩)] W fun e W' => (∃ v, e = .returned v) ∧
      ((∃ ys, ys = List.range len ∧ J ys W') ∨ (∃ pre, (∃ k, k ≤ len ∧ pre = List.range k) ∧ Jx pre W')) := by
  refine callsIn_of_wp Try.func171 rfl h88 ?_ hro
  simp only [Try.ntmps171, List.size_toArray, List.length_cons, List.length_nil, Nat.reduceAdd, Nat.reduceSub, Array.replicate_succ, Array.replicate_zero, List.push_toArray, List.append_toArray, List.nil_append, List.cons_append]
  gi_wp2
  gi_loopw [8] (fun i wr => ∃ k : Nat, k ≤ len ∧ i = .int .i64 k ∧ J (List.range k) wr ∧ Below n₀ W wr)
    (fun i _ => len - (intOf i).toNat)
  case atStart => exact ⟨0, Nat.zero_le _, rfl, h0, Below.refl _ _⟩
  case round =>
    obtain ⟨k, hk, rfl, hJs, hnx⟩ := hrel
    by_cases hlt : k < len
    · have c1 := (hnx.cell (p := ⟨bv, k, none⟩) hb4).trans (hv k hlt)
      have c2 := (hnx.cell (p := ⟨Bx, 0, none⟩) hb2).trans hBx
      have c3 := (hnx.cell (p := ⟨Bs, 0, none⟩) hb3).trans hBs
      have c4 : FloatsAt wr b off len f := fun j hj => (hnx.cell (p := ⟨b, off + j, none⟩) hb5).trans (hc j hj)
      have hm := fun ty W => run_float_arith (P := Try.prog) W .mul ty .f64 _ _ _ (ht k hlt)
      have CV := Lib.hid (value_in F (n - 1) h87 hro k Bs b off len cap f wr hlt hlen c3 c4)
      have l1 : (k : Int) < (len : Int) := by omega
      have l2 : 1 ≤ n := by omega
      have l3 : 1 ≤ n - 1 := by omega
      obtain ⟨fn, tmps, assign, body, hy, hR⟩ := hY _ k wr hJs (by rw [List.length_range]; exact hlt)
      have HR := Lib.hid hR
      have C4 := Lib.hid c4
      have HT := Lib.hid ht
      have HV := Lib.hid hv
      have HC := Lib.hid hc
      have HY := Lib.hid hY
      clear hR c4 ht hv hc hY
      gi_wp2_with (gi_at_call 149; refine CV.out.mono ?_; rintro e w' ⟨rfl, rfl⟩)
      refine HR.out.mono ?_
      rintro e W3 (⟨rfl, hJ3, hk3⟩ | ⟨rfl, hJx3⟩)
      · gi_wp2
        go_roundw
        case rel => exact ⟨k + 1, by omega, by go_num, by rw [List.range_succ]; exact hJ3, hnx.trans hk3⟩
        case measure => simp [intOf]; omega
      · gi_wp2
        refine bodyPost_ret (results_none rfl _ _ _) rfl ?_
        exact ⟨⟨_, rfl⟩, .inr ⟨_, ⟨k + 1, by omega, List.range_succ.symm⟩, hJx3⟩⟩
    · obtain rfl : k = len := by omega
      gi_wp2
      go_end0
      exact ⟨⟨_, rfl⟩, .inl ⟨_, rfl, hJs⟩⟩

/-! ### Sums of bounded numbers -/

theorem le_abs (x : Rat) : x ≤ x.abs := by
  by_cases h : 0 ≤ x
  · rw [Rat.abs_of_nonneg h]; exact Rat.le_refl
  · have := Rat.abs_nonneg (x := x); grind

theorem neg_le_abs (x : Rat) : -x ≤ x.abs := by
  have := le_abs (-x); rw [Rat.abs_neg] at this; exact this

theorem abs_le_of {x y : Rat} (h1 : x ≤ y) (h2 : -x ≤ y) : x.abs ≤ y := by
  by_cases h : 0 ≤ x
  · rw [Rat.abs_of_nonneg h]; exact h1
  · rw [Rat.abs_of_nonpos (by grind)]; exact h2

theorem abs_add_le (x y : Rat) : (x + y).abs ≤ x.abs + y.abs := by
  have := le_abs x; have := le_abs y; have := neg_le_abs x; have := neg_le_abs y
  exact abs_le_of (by grind) (by grind)

theorem sum_step {s x : Nat} {B : Rat} {n : Nat} (hs : isFin s) (hx : isFin x) (hS : (fv s).abs ≤ 2 * (n : Rat) * B) (hX : (fv x).abs ≤ B) (hB : 1 ≤ B) (hB2 : B ≤ 1298074214633706907132624082305024) (hn : n ≤ 16385) :
    floatBits .add .f64 s x = some (fadd s x) ∧ isFin (fadd s x) ∧ (fv (fadd s x)).abs ≤ 2 * ((n + 1 : Nat) : Rat) * B := by
  have hn' : (n : Rat) ≤ 16385 := Rat.natCast_le_natCast.2 hn
  have hn0 : (0 : Rat) ≤ (n : Rat) := Rat.natCast_nonneg
  have e : ((n + 1 : Nat) : Rat) = (n : Rat) + 1 := by rw [Rat.natCast_add]; rfl
  have hnB : (n : Rat) * B ≤ 16385 * B := Rat.mul_le_mul_of_nonneg_right hn' (by grind)
  have htri := abs_add_le (fv s) (fv x)
  have hb : (fv s + fv x).abs ≤ 2 * ((n : Rat) * B) + B := by grind
  have hbig : (fv s + fv x).abs ≤ two 1023 := by
    refine Rat.le_trans ?_ (Rat.le_trans big_ge (two_mono (by omega)))
    grind
  obtain ⟨a1, a2, a3⟩ := fadd_ok hs hx hbig
  refine ⟨a1, a2, ?_⟩
  have h1 := a3.er
  have h2 := a3.er'
  have h3 := eps_100 (Rat.abs_nonneg (x := fv s + fv x))
  have h4 := eta_eps
  have h5 := eps_val
  have h0 := Rat.abs_nonneg (x := fv s + fv x)
  rw [e]
  have l1 := le_abs (fv s + fv x)
  have l2 := neg_le_abs (fv s + fv x)
  have hm : (fv s + fv x).abs * eps = eps * (fv s + fv x).abs := Rat.mul_comm _ _
  rw [hm] at h1 h2
  generalize eps * (fv s + fv x).abs = ex at *
  generalize (fv s + fv x).abs = ab at *
  generalize fv s + fv x = sx at *
  have hu : fv (fadd s x) ≤ 2 * ((n : Rat) + 1) * B := by grind
  have hl : -(fv (fadd s x)) ≤ 2 * ((n : Rat) + 1) * B := by grind
  exact abs_le_of hu hl

attribute [local go_sem] run_store_float

set_option maxRecDepth 100000 in
set_option maxHeartbeats 2000000 in
/-- canon.sum over that iterator. -/
theorem sum_in (F : Fence) (n : Nat) (h69 : F.fn 147) (h88 : F.fn 171) (h87 : F.fn 149) (hro : F.round = none) (hn : 4 ≤ n) (Bv Bx Bs bv b off len cap : Nat) (f v t : Nat → Nat) (hlen : len ≤ 16385) (B : Rat) (hB : 1 ≤ B) (hB2 : B ≤ 1298074214633706907132624082305024)
    (w : World) (hb1 : Bv < w.heap.size) (hb2 : Bx < w.heap.size) (hb3 : Bs < w.heap.size) (hb4 : bv < w.heap.size) (hb5 : b < w.heap.size)
    (ht : ∀ k, k < len → floatBits .mul .f64 (f k) (v k) = some (t k)) (htf : ∀ k, isFin (t k) ∧ (fv (t k)).abs ≤ B)
    (hBv : w.cell? ⟨Bv, 0, none⟩ = some (.slice (some ⟨bv, 0, none⟩) len len)) (hBx : w.cell? ⟨Bx, 0, none⟩ = some (.func (.func 149) #[] #[.pointer (some ⟨Bs, 0, none⟩)]))
    (hBs : w.cell? ⟨Bs, 0, none⟩ = some (.slice (some ⟨b, off, none⟩) len cap)) (hv : ∀ j, j < len → w.cell? ⟨bv, j, none⟩ = some (.float .f64 (v j))) (hc : FloatsAt w b off len f) :
    CallsIn F n Try.prog 147 #[.func (.func 171) #[] #[.pointer (some ⟨Bv, 0, none⟩), .pointer (some ⟨Bx, 0, none⟩)]] w fun e W' => e = .returned (.float .f64 (psum t len)) ∧ Below w.heap.size w W' := by
  have h1 : 1 ≤ n := by omega
  refine callsIn_of_wp_marks Try.func147 rfl h69 ?_ hro
  simp only [Try.ntmps147, List.size_toArray, List.length_cons, List.length_nil, Nat.reduceAdd, Nat.reduceSub, Array.replicate_succ, Array.replicate_zero, List.push_toArray, List.append_toArray, List.nil_append, List.cons_append]
  gi_wp2
  have hbel := (Below.refl w.heap.size w).alloc (Nat.le_refl _) (.cells #[.float .f64 0] 77)
  have hs : (w.alloc (.cells #[.float .f64 0] 77)).cell? ⟨w.heap.size, 0, none⟩ = some (.float .f64 0) := by simp [go_sem]
  have hf0 : (w.alloc (.cells #[.float .f64 0] 77)).frozen? ⟨w.heap.size, 0, none⟩ = false := by simp [go_sem]
  refine wpIn_rangeFunc_ownF hro h1 (gf := 171) (lb := #[.pointer (some ⟨Bv, 0, none⟩), .pointer (some ⟨Bx, 0, none⟩)]) rfl h88 (enters_of Try.func171 (by kernel_rfl) rfl)
    (encs := fun x : Nat => #[.float .f64 (t x)]) (Kp := Below w.heap.size) (S := fun ys => ys = List.range len) (Sp := fun pre => ∃ k, k ≤ len ∧ pre = List.range k) (N := len) (w0 := w.alloc (.cells #[.float .f64 0] 77))
    ?seq belowK_t (belowK_b (by simp)) (Below.refl _ _) (fun _ => rfl)
    (fun pre W => (∃ s, W.cell? ⟨w.heap.size, 0, none⟩ = some (.float .f64 s) ∧ W.frozen? ⟨w.heap.size, 0, none⟩ = false ∧ isFin s ∧ (fv s).abs ≤ 2 * (pre.length : Rat) * B ∧ (pre = List.range pre.length → s = psum t pre.length)) ∧ Below w.heap.size w W)
    (fun _ _ _ => False) ?own ?ownx ?start
    (fun x => { tmps := #[.func (.func 171) #[] #[.pointer (some ⟨Bv, 0, none⟩), .pointer (some ⟨Bx, 0, none⟩)], undef, .float .f64 0, .pointer (some ⟨w.heap.size, 0, none⟩), .float .f64 (t x),
        .func (.func 171) #[] #[.pointer (some ⟨Bv, 0, none⟩), .pointer (some ⟨Bx, 0, none⟩)], .float .f64 (t x), undef, undef, undef, undef], defers := [] }) ?assign ?body ?done ?stop
  case seq =>
    intro l J Jx W hW _ _ hY hJ0
    have hk : ∀ (p : Addr), p.block < w.heap.size → W.cell? p = w.cell? p := fun p hp => (hW.cell (p := p) (by simp; omega)).trans (hbel.cell hp)
    exact (terms1_in F (n - 1) h88 h87 hro (by omega) l Bv Bx Bs bv b off len cap w.heap.size f v t hlen hb1 hb2 hb3 hb4 hb5 ht J Jx hY W ((hk _ hb1).trans hBv) ((hk _ hb2).trans hBx) ((hk _ hb3).trans hBs)
      (fun j hj => (hk _ hb4).trans (hv j hj)) (fun j hj => (hk _ hb5).trans (hc j hj)) hJ0).mono fun e W' h => h
  case own =>
    refine OwnFrom.and (Own.from (fun s A C row hs hg hr => ?_) _) (ownFrom_below (Nat.le_refl _) (by simp))
    obtain ⟨x, h1, h2, h3⟩ := hs
    exact ⟨x, cell_kept h1 hg hr, (frozen_kept h1 hg hr).trans h2, h3⟩
  case ownx => exact fun _ _ _ _ _ hs _ _ => hs
  case start =>
    exact ⟨⟨0, hs, hf0, isFin_zero, by rw [fv_zero, Rat.abs_zero]; simp, fun _ => rfl⟩, hbel⟩
  case assign =>
    intro l x W K hK
    gi_wp2
    exact hK
  case body =>
    rintro l pre x W ⟨⟨s, hc1, hf1, hs1, hs2, hs3⟩, hB1⟩ hlt
    obtain ⟨a1, a2, a3⟩ := sum_step hs1 (htf x).1 hs2 (htf x).2 hB hB2 (by omega)
    have hadd := fun ty W => run_float_arith (P := Try.prog) W .add ty .f64 _ _ _ a1
    have HS3 := Lib.hid hs3
    have HA3 := Lib.hid a3
    have HT := Lib.hid ht
    clear hs3 ht a3 a1
    gi_wp2
    refine ⟨KeepsOthers.setCell _ _ _, (Below.refl w.heap.size W).setCell (p := ⟨w.heap.size, 0, none⟩) (Nat.le_refl _) _, ⟨fadd s (t x), World.cell?_setCell_same' _ _ _ (by rw [hc1]; rfl), by rw [World.frozen?_setCell]; exact hf1, a2, by rw [List.length_append]; exact HA3.out, fun he => ?_⟩, hB1.setCell (p := ⟨w.heap.size, 0, none⟩) (Nat.le_refl _) _⟩
    rw [List.length_append, List.length_singleton, List.range_succ] at he
    obtain ⟨e1, e2⟩ := List.append_inj he (by simp)
    have e3 : x = pre.length := by simpa using e2
    rw [List.length_append, List.length_singleton, HS3.out e1, e3]
    rfl
  case done =>
    rintro D ys W hD rfl ⟨⟨s, hc, _, _, _, hp⟩, hB⟩ hK
    have hp' := hp (by rw [List.length_range])
    rw [List.length_range] at hp'
    have HP := Lib.hid hp'
    clear hp hp'
    gi_wp2
    refine ⟨by simp, .inl ⟨_, _, rfl, run_takeDeferred hK, ?_⟩⟩
    exact ⟨_, results_tmp rfl _ _ _, by rw [← HP.out]; rfl, hB.trans (belowK_b (w := w) (Nat.le_refl _) W D _ _ (by simp at hD; omega) hK rfl rfl)⟩
  case stop =>
    rintro D c pre W _ _ h _
    exact h.elim

/-! ### The same over the differences -/

set_option maxHeartbeats 1000000 in
theorem diff_c (k Bs b off len cap : Nat) (f g : Nat → Nat) (W : World) (hk : k + 1 < len) (_hlen : len ≤ 16385)
    (hBs : W.cell? ⟨Bs, 0, none⟩ = some (.slice (some ⟨b, off, none⟩) len cap)) (hc : FloatsAt W b off len f)
    (hg : floatBits .sub .f64 (f (k + 1)) (f k) = some (g k)) :
    Calls Try.prog 151 #[.int .i64 k, .pointer (some ⟨Bs, 0, none⟩)] W fun e W' => e = .returned (.float .f64 (g k)) ∧ W.drew = W' := by
  have hc1 := hc k (by omega)
  have hc2 := hc (k + 1) hk
  have l1 : (k : Int) < (len : Int) := by omega
  have l2 : (k : Int) + 1 < (len : Int) := by omega
  have hs := fun ty W => run_float_arith (P := Try.prog) W .sub ty .f64 _ _ _ hg
  clear hc hg
  go_enter Try.func151, Try.ntmps151
  go_wp2
  go_region
  go_wp2
  go_ret
  exact ⟨rfl, rfl⟩

set_option maxRecDepth 100000 in
set_option maxHeartbeats 2000000 in
/-- The iterator of terms, at the differences of a list. -/
theorem terms2_in (F : Fence) (n : Nat) (h88 : F.fn 171) (h68 : F.fn 151) (hro : F.round = none) (hn : 2 ≤ n) (l Bv Bx Bs bv len n₀ : Nat) (f v t : Nat → Nat) (hlen : len ≤ 16385)
    (_hb1 : Bv < n₀) (hb2 : Bx < n₀) (hb4 : bv < n₀)
    (ht : ∀ k, k < len → floatBits .mul .f64 (f k) (v k) = some (t k)) (J Jx : List Nat → World → Prop)
    (hJ : ∀ s A, J s A → J s A.drew)
    (hY : ∀ pre x W, J pre W → pre.length < len → YieldAt F (n - 1) Try.prog l #[.float .f64 (t x)] W fun e W' =>
      (e = .returned (.bool true) ∧ J (pre ++ [x]) W' ∧ Below n₀ W W') ∨ (e = .returned (.bool false) ∧ Jx (pre ++ [x]) W'))
    (W : World) (hBv : W.cell? ⟨Bv, 0, none⟩ = some (.slice (some ⟨bv, 0, none⟩) len len)) (hBx : W.cell? ⟨Bx, 0, none⟩ = some (.func (.func 151) #[] #[.pointer (some ⟨Bs, 0, none⟩)]))
    (hx : ∀ k wr, k < len → Below n₀ W wr → CallsIn F (n - 1) Try.prog 151 #[.int .i64 k, .pointer (some ⟨Bs, 0, none⟩)] wr fun e w' => e = .returned (.float .f64 (f k)) ∧ wr.drew = w') (hv : ∀ j, j < len → W.cell? ⟨bv, j, none⟩ = some (.float .f64 (v j))) (h0 : J [] W) :
    CallsIn F n Try.prog 171 #[.func (.yield l) #[] #[], .pointer (some ⟨Bv, 0, none⟩), .pointer (some ⟨Bx, 0, none⟩)] W fun e W' => (∃ v, e = .returned v) ∧
      ((∃ ys, ys = List.range len ∧ J ys W') ∨ (∃ pre, (∃ k, k ≤ len ∧ pre = List.range k) ∧ Jx pre W')) := by
  refine callsIn_of_wp Try.func171 rfl h88 ?_ hro
  simp only [Try.ntmps171, List.size_toArray, List.length_cons, List.length_nil, Nat.reduceAdd, Nat.reduceSub, Array.replicate_succ, Array.replicate_zero, List.push_toArray, List.append_toArray, List.nil_append, List.cons_append]
  gi_wp2
  gi_loopw [8] (fun i wr => ∃ k : Nat, k ≤ len ∧ i = .int .i64 k ∧ J (List.range k) wr ∧ Below n₀ W wr)
    (fun i _ => len - (intOf i).toNat)
  case atStart => exact ⟨0, Nat.zero_le _, rfl, h0, Below.refl _ _⟩
  case round =>
    obtain ⟨k, hk, rfl, hJs, hnx⟩ := hrel
    by_cases hlt : k < len
    · have c1 := (hnx.cell (p := ⟨bv, k, none⟩) hb4).trans (hv k hlt)
      have c2 := (hnx.cell (p := ⟨Bx, 0, none⟩) hb2).trans hBx
      have hm := fun ty W => run_float_arith (P := Try.prog) W .mul ty .f64 _ _ _ (ht k hlt)
      have CV := Lib.hid (hx k wr hlt hnx)
      have l1 : (k : Int) < (len : Int) := by omega
      have l2 : 1 ≤ n := by omega
      have l3 : 1 ≤ n - 1 := by omega
      obtain ⟨fn, tmps, assign, body, hy, hR⟩ := hY _ k wr.drew (hJ _ wr hJs) (by rw [List.length_range]; exact hlt)
      have HR := Lib.hid hR
      have HT := Lib.hid ht
      have HV := Lib.hid hv
      have HX := Lib.hid hx
      have HJ := Lib.hid hJ
      have HY := Lib.hid hY
      clear hR ht hv hx hY hJ
      gi_wp2_with (gi_at_call 151; refine CV.out.mono ?_; rintro e w' ⟨rfl, rfl⟩)
      refine HR.out.mono ?_
      rintro e W3 (⟨rfl, hJ3, hk3⟩ | ⟨rfl, hJx3⟩)
      · gi_wp2
        go_roundw
        case rel => exact ⟨k + 1, by omega, by go_num, by rw [List.range_succ]; exact hJ3, hnx.drew.trans hk3⟩
        case measure => simp [intOf]; omega
      · gi_wp2
        refine bodyPost_ret (results_none rfl _ _ _) rfl ?_
        exact ⟨⟨_, rfl⟩, .inr ⟨_, ⟨k + 1, by omega, List.range_succ.symm⟩, hJx3⟩⟩
    · obtain rfl : k = len := by omega
      gi_wp2
      go_end0
      exact ⟨⟨_, rfl⟩, .inl ⟨_, rfl, hJs⟩⟩

set_option maxRecDepth 100000 in
set_option maxHeartbeats 2000000 in
/-- canon.sum over that iterator. -/
theorem sum2_in (F : Fence) (n : Nat) (h69 : F.fn 147) (h88 : F.fn 171) (h68 : F.fn 151) (hro : F.round = none) (hn : 4 ≤ n) (Bv Bx Bs bv len : Nat) (f v t : Nat → Nat) (hlen : len ≤ 16385) (B : Rat) (hB : 1 ≤ B) (hB2 : B ≤ 1298074214633706907132624082305024)
    (w : World) (hb1 : Bv < w.heap.size) (hb2 : Bx < w.heap.size) (hb4 : bv < w.heap.size)
    (ht : ∀ k, k < len → floatBits .mul .f64 (f k) (v k) = some (t k)) (htf : ∀ k, isFin (t k) ∧ (fv (t k)).abs ≤ B)
    (hBv : w.cell? ⟨Bv, 0, none⟩ = some (.slice (some ⟨bv, 0, none⟩) len len)) (hBx : w.cell? ⟨Bx, 0, none⟩ = some (.func (.func 151) #[] #[.pointer (some ⟨Bs, 0, none⟩)]))
    (hx : ∀ k wr, k < len → Below w.heap.size w wr → CallsIn F (n - 1 - 1) Try.prog 151 #[.int .i64 k, .pointer (some ⟨Bs, 0, none⟩)] wr fun e w' => e = .returned (.float .f64 (f k)) ∧ wr.drew = w') (hv : ∀ j, j < len → w.cell? ⟨bv, j, none⟩ = some (.float .f64 (v j))) :
    CallsIn F n Try.prog 147 #[.func (.func 171) #[] #[.pointer (some ⟨Bv, 0, none⟩), .pointer (some ⟨Bx, 0, none⟩)]] w fun e W' => e = .returned (.float .f64 (psum t len)) ∧ Below w.heap.size w W' := by
  have h1 : 1 ≤ n := by omega
  refine callsIn_of_wp_marks Try.func147 rfl h69 ?_ hro
  simp only [Try.ntmps147, List.size_toArray, List.length_cons, List.length_nil, Nat.reduceAdd, Nat.reduceSub, Array.replicate_succ, Array.replicate_zero, List.push_toArray, List.append_toArray, List.nil_append, List.cons_append]
  gi_wp2
  have hbel := (Below.refl w.heap.size w).alloc (Nat.le_refl _) (.cells #[.float .f64 0] 77)
  have hs : (w.alloc (.cells #[.float .f64 0] 77)).cell? ⟨w.heap.size, 0, none⟩ = some (.float .f64 0) := by simp [go_sem]
  have hf0 : (w.alloc (.cells #[.float .f64 0] 77)).frozen? ⟨w.heap.size, 0, none⟩ = false := by simp [go_sem]
  refine wpIn_rangeFunc_ownF hro h1 (gf := 171) (lb := #[.pointer (some ⟨Bv, 0, none⟩), .pointer (some ⟨Bx, 0, none⟩)]) rfl h88 (enters_of Try.func171 (by kernel_rfl) rfl)
    (encs := fun x : Nat => #[.float .f64 (t x)]) (Kp := Below w.heap.size) (S := fun ys => ys = List.range len) (Sp := fun pre => ∃ k, k ≤ len ∧ pre = List.range k) (N := len) (w0 := w.alloc (.cells #[.float .f64 0] 77))
    ?seq belowK_t (belowK_b (by simp)) (Below.refl _ _) (fun _ => rfl)
    (fun pre W => (∃ s, W.cell? ⟨w.heap.size, 0, none⟩ = some (.float .f64 s) ∧ W.frozen? ⟨w.heap.size, 0, none⟩ = false ∧ isFin s ∧ (fv s).abs ≤ 2 * (pre.length : Rat) * B ∧ (pre = List.range pre.length → s = psum t pre.length)) ∧ Below w.heap.size w W)
    (fun _ _ _ => False) ?own ?ownx ?start
    (fun x => { tmps := #[.func (.func 171) #[] #[.pointer (some ⟨Bv, 0, none⟩), .pointer (some ⟨Bx, 0, none⟩)], undef, .float .f64 0, .pointer (some ⟨w.heap.size, 0, none⟩), .float .f64 (t x),
        .func (.func 171) #[] #[.pointer (some ⟨Bv, 0, none⟩), .pointer (some ⟨Bx, 0, none⟩)], .float .f64 (t x), undef, undef, undef, undef], defers := [] }) ?assign ?body ?done ?stop
  case seq =>
    intro l J Jx W hW hJ _ hY hJ0
    have hk : ∀ (p : Addr), p.block < w.heap.size → W.cell? p = w.cell? p := fun p hp => (hW.cell (p := p) (by simp; omega)).trans (hbel.cell hp)
    exact (terms2_in F (n - 1) h88 h68 hro (by omega) l Bv Bx Bs bv len w.heap.size f v t hlen hb1 hb2 hb4 ht J Jx (fun s A h => hJ s A A.drew none h ⟨rfl, rfl, rfl, Nat.le_refl _, fun _ _ _ => rfl⟩ (fun r e => by cases e)) hY W ((hk _ hb1).trans hBv) ((hk _ hb2).trans hBx)
      (fun k wr hk2 hb => hx k wr hk2 ((hbel.trans (hW.mono (by simp))).trans hb)) (fun j hj => (hk _ hb4).trans (hv j hj)) hJ0).mono fun e W' h => h
  case own =>
    refine OwnFrom.and (Own.from (fun s A C row hs hg hr => ?_) _) (ownFrom_below (Nat.le_refl _) (by simp))
    obtain ⟨x, h1, h2, h3⟩ := hs
    exact ⟨x, cell_kept h1 hg hr, (frozen_kept h1 hg hr).trans h2, h3⟩
  case ownx => exact fun _ _ _ _ _ hs _ _ => hs
  case start =>
    exact ⟨⟨0, hs, hf0, isFin_zero, by rw [fv_zero, Rat.abs_zero]; simp, fun _ => rfl⟩, hbel⟩
  case assign =>
    intro l x W K hK
    gi_wp2
    exact hK
  case body =>
    rintro l pre x W ⟨⟨s, hc1, hf1, hs1, hs2, hs3⟩, hB1⟩ hlt
    obtain ⟨a1, a2, a3⟩ := sum_step hs1 (htf x).1 hs2 (htf x).2 hB hB2 (by omega)
    have hadd := fun ty W => run_float_arith (P := Try.prog) W .add ty .f64 _ _ _ a1
    have HS3 := Lib.hid hs3
    have HA3 := Lib.hid a3
    have HT := Lib.hid ht
    clear hs3 ht a3 a1
    gi_wp2
    refine ⟨KeepsOthers.setCell _ _ _, (Below.refl w.heap.size W).setCell (p := ⟨w.heap.size, 0, none⟩) (Nat.le_refl _) _, ⟨fadd s (t x), World.cell?_setCell_same' _ _ _ (by rw [hc1]; rfl), by rw [World.frozen?_setCell]; exact hf1, a2, by rw [List.length_append]; exact HA3.out, fun he => ?_⟩, hB1.setCell (p := ⟨w.heap.size, 0, none⟩) (Nat.le_refl _) _⟩
    rw [List.length_append, List.length_singleton, List.range_succ] at he
    obtain ⟨e1, e2⟩ := List.append_inj he (by simp)
    have e3 : x = pre.length := by simpa using e2
    rw [List.length_append, List.length_singleton, HS3.out e1, e3]
    rfl
  case done =>
    rintro D ys W hD rfl ⟨⟨s, hc, _, _, _, hp⟩, hB⟩ hK
    have hp' := hp (by rw [List.length_range])
    rw [List.length_range] at hp'
    have HP := Lib.hid hp'
    clear hp hp'
    gi_wp2
    refine ⟨by simp, .inl ⟨_, _, rfl, run_takeDeferred hK, ?_⟩⟩
    exact ⟨_, results_tmp rfl _ _ _, by rw [← HP.out]; rfl, hB.trans (belowK_b (w := w) (Nat.le_refl _) W D _ _ (by simp at hD; omega) hK rfl rfl)⟩
  case stop =>
    rintro D c pre W _ _ h _
    exact h.elim

end Go.Proofs.Ytbafacdknaopjaa.X
