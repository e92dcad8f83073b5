import Derived.BigQuiet
import Derived.RegionTactic
import Derived.Test.YtipgbbhgmoehfaaYL
import Derived.Test.YtipgbbhgmoehfaaYM
/-
  shuffle: Draw.
-/
namespace Go.Proofs.Ytipgbbhgmoehfaa
open Go.RowKit
set_option linter.unusedSimpArgs false
set_option linter.unusedSectionVars false

/-- Two elements exchanged. -/
def swp (f : Nat → Nat) (i k : Nat) : Nat → Nat := put (put f i (f k)) k (f i)
/-- What the first draws make of n numbers. -/
def sh (n : Nat) (d : Nat → Nat) : Nat → (Nat → Nat)
  | 0 => id
  | i + 1 => swp (sh n d i) i (i + d i % (n - i))
theorem swp_lt {n : Nat} {f : Nat → Nat} (h : ∀ j, j < n → f j < n) {i k : Nat} (hi : i < n) (hk : k < n) : ∀ j, j < n → swp f i k j < n := by
  intro j hj
  unfold swp put
  split
  · exact h i hi
  · split
    · exact h k hk
    · exact h j hj
theorem sh_lt {n : Nat} (d : Nat → Nat) : ∀ i, i + 1 ≤ n → ∀ j, j < n → sh n d i j < n
  | 0, _, j, hj => hj
  | i + 1, hi, j, hj => swp_lt (sh_lt d i (by omega)) (by omega) (by have := Nat.mod_lt (d i) (show 0 < n - i by omega); omega) j hj

set_option maxRecDepth 100000 in
theorem ident1_any (a b : Int) (W : World) : Calls Try.prog 130 #[.int .i64 a, .int .i64 b] W fun e w' => e = .returned (.int .i64 a) ∧ W = w' := by
  go_enter Try.func130, Try.ntmps130
  go_wp2
  go_ret
  exact ⟨rfl, rfl⟩

set_option maxRecDepth 100000 in
set_option maxHeartbeats 2000000 in
theorem each_ident (B n cb : Nat) (f : Nat → Nat) (w : World) (h : Row w B n f) (hn : n ≤ 65536) : Calls Try.prog 129 #[.slice (some ⟨B, 0, none⟩) n cb, .func (.func 130) #[] #[]] w fun e w' =>
    ∃ g, e = .returned (.slice (some ⟨g, 0, none⟩) n n) ∧ Row w' g n id ∧ w.heap.size ≤ g ∧ Only [] w w' := by
  have hmk := mk_ints n (by omega)
  have HB := Lib.hid h
  have hb := Lib.hid h.lt
  have CI := Lib.hid (fun a b W => ident1_any a b W)
  clear h
  go_enter Try.func129, Try.ntmps129
  go_wp2_with fail
  clear hmk
  go_loopw [13] (fun i wr => ∃ k : Nat, k ≤ n ∧ i = .int .i64 k ∧ Hid (Row wr w.heap.size n (fun j => if j < k then j else 0)) ∧ Hid (Only [] w wr)) (fun i _ => n - (intOf i).toNat)
  case atStart => exact ⟨0, Nat.zero_le _, rfl, Lib.hid ((made_row (heap_alloc_new w _)).congr fun i _ => by rw [if_neg (by omega)]), Lib.hid ((Only.refl [] w).alloc _)⟩
  case round =>
    obtain ⟨k, hk, rfl, H1, HO⟩ := hrel
    by_cases hlt : k < n
    · have c0 := (HB.out.only HO.out (by simp)).cell hlt
      have c1 := H1.out.cell hlt
      have z1 := H1.out.frozen k
      have H2 := Lib.hid ((H1.out.put k k).congr (f' := fun j => if j < k + 1 then j else 0) fun i _ => by
        unfold Go.Proofs.Ytipgbbhgmoehfaa.put
        by_cases e : i = k
        · rw [if_pos e, if_pos (by omega), e]
        · rw [if_neg e]
          show (if i < k then i else 0) = _
          by_cases e2 : i < k
          · rw [if_pos e2, if_pos (by omega)]
          · rw [if_neg e2, if_neg (by omega)])
      have HO2 := Lib.hid (HO.out.to ((Only.refl [w.heap.size] wr).setCell (g := w.heap.size) (i := k) (by simp) (.int .i64 k)) fun i hi hlt => by simp at hi; omega)
      clear H1
      go_wp2_with fail
      refine (CI.out _ _ _).mono ?_
      rintro e w' ⟨rfl, rfl⟩
      go_wp2_with fail
      go_roundw
      case rel => exact ⟨k + 1, by omega, by go_num, H2, HO2⟩
      case measure => simp [intOf]; omega
    · obtain rfl : k = n := by omega
      go_wp2_with fail
      go_ret
      exact ⟨_, rfl, H1.out.congr fun j hj => by rw [if_pos hj]; rfl, Nat.le_refl _, HO.out⟩

set_option maxRecDepth 100000 in
theorem ident_any (n : Nat) (w : World) (hn : n ≤ 65536) : Calls Try.prog 100 #[.int .i64 n] w fun e w' =>
    ∃ g, e = .returned (.slice (some ⟨g, 0, none⟩) n n) ∧ Row w' g n id ∧ w.heap.size ≤ g ∧ Only [] w w' := by
  have hmk := mk_ints n (by omega)
  have CE := Lib.hid (each_ident w.heap.size n n (fun _ => 0) _ (made_row (heap_alloc_new w (.cells (madeCells #[.int .i64 0] n) 3))) hn)
  have HO := Lib.hid ((Only.refl [] w).alloc (.cells (madeCells #[.int .i64 0] n) 3))
  go_enter Try.func100, Try.ntmps100
  go_wp2_with fail
  refine CE.out.mono ?_
  rintro e w1 ⟨g, rfl, hr, hg, hO⟩
  have HR := Lib.hid (And.intro hr (And.intro (Nat.le_trans HO.out.size hg) (HO.out.trans hO)))
  clear hr hg hO CE
  go_wp2_with fail
  go_ret
  exact ⟨g, rfl, HR.out⟩

set_option maxRecDepth 100000 in
set_option maxHeartbeats 4000000 in
theorem Draw_ok (n : Nat) (D : Option Addr) (m c : Nat) (f : Nat → Int) (d : Nat → Nat) (w : World) (h : IntsIn w .u64 D m f) (hf : ∀ j, j < m → f j = d j) (hn : n ≤ 16384) (hm : n ≤ m + 1) (hd : ∀ j, j < m → d j < 18446744073709551616) :
    Calls Try.prog 69 #[.int .i64 n, .slice D m c] w fun e w' => ∃ g, e = .returned (.tuple #[.slice (some ⟨g, 0, none⟩) n n, .int .i64 0]) ∧ Row w' g n (sh n d (n - 1)) ∧ w.heap.size ≤ g ∧ Only [] w w' := by
  have CI := Lib.hid (ident_any n w (by omega))
  have HD := Lib.hid h
  have HF := Lib.hid hf
  have HU := Lib.hid hd
  have hl := h.len
  unfold maxLen at hl
  clear h hf hd
  have h1 : ¬ (m : Int) < (n : Int) - 1 := by omega
  have h2 : ¬ 16384 < n := by omega
  go_enter Try.func69, Try.ntmps69
  go_wp2_with fail
  refine CI.out.mono ?_
  rintro e w1 ⟨g, rfl, hr, hg, hO⟩
  have HR := Lib.hid hr
  have HG := Lib.hid hg
  have HO := Lib.hid hO
  clear hr hg hO CI h1 h2
  go_wp2_with fail
  go_loopw [24] (fun i wr => ∃ k : Nat, k ≤ n - 1 ∧ i = .int .i64 k ∧ Hid (Row wr g n (sh n d k)) ∧ Hid (Only [] w wr)) (fun i _ => n - (intOf i).toNat)
  case atStart => exact ⟨0, Nat.zero_le _, rfl, HR, HO⟩
  case round =>
    clear HR HO
    obtain ⟨k, hk, rfl, HR, HO⟩ := hrel
    by_cases hlt : k < n - 1
    · obtain ⟨b, off, rfl, hc⟩ := (HD.out.only HO.out).cell (show k < m by omega)
      rw [HF.out k (by omega)] at hc
      have hdk := HU.out k (by omega)
      obtain ⟨x, hx⟩ : ∃ x, d k = x := ⟨_, rfl⟩
      have HX := Lib.hid hx
      rw [hx] at hc hdk
      clear hx
      obtain ⟨y, hy⟩ : ∃ y, x % (n - k) = y := ⟨_, rfl⟩
      have hyl : y < n - k := hy ▸ Nat.mod_lt _ (by omega)
      have HY := Lib.hid hy
      have E := Lib.hid (show wrap64 ((k : Int) + wrap64 ((x : Int) % ((n : Int) - (k : Int)))) = ((k + y : Nat) : Int) by
        have e1 : (x : Int) % ((n : Int) - (k : Int)) = y := by
          rw [← hy, show (n : Int) - (k : Int) = ((n - k : Nat) : Int) by omega]
          exact (Int.natCast_emod x (n - k)).symm
        have w64 : ∀ z : Int, -9223372036854775808 ≤ z ∧ z ≤ 9223372036854775807 → wrap64 z = z := fun z h => by unfold wrap64; omega
        rw [e1, w64 y (by omega), w64 _ (by omega)]
        omega)
      clear hy
      go_wp2_with fail
      have E2 := E.out
      rw [E2]
      clear E2
      have HS := Lib.hid (show sh n d (k + 1) = swp (sh n d k) k (k + y) by rw [sh, HX.out, HY.out])
      obtain ⟨z, hz⟩ : ∃ z, k + y = z := ⟨_, rfl⟩
      have hzn : z < n := by omega
      rw [hz] at HS ⊢
      clear E HX HY hz hyl hc
      have hkn : k < n := by omega
      obtain ⟨q, hq⟩ : ∃ q, sh n d k = q := ⟨_, rfl⟩
      rw [hq] at HR HS
      clear hq
      have c1 := HR.out.cell hkn
      have c2 := HR.out.cell hzn
      have z1 := HR.out.frozen k
      have z2 := HR.out.frozen z
      have hgw : w.heap.size ≤ g := HG.out
      have HR2 := Lib.hid ((HR.out.put k (q z)).put z (q k))
      have HO2 := Lib.hid (HO.out.to (((Only.refl [g] wr).setCell (g := g) (i := k) (by simp) (.int .i64 (q z))).setCell (g := g) (i := z) (by simp) (.int .i64 (q k))) fun i hi hlt => by simp at hi; omega)
      clear HR HO
      by_cases hkz : k = z
      · subst hkz
        go_region
        go_wp2_with fail
        go_roundw
        case rel => exact ⟨k + 1, by omega, by go_num, Lib.hid (by rw [HS.out]; exact HR2.out.only ((Only.refl [] _).drewN 1) (by simp)), Lib.hid (HO2.out.drewN 1)⟩
        case measure => simp [intOf]; omega
      · go_region
        go_wp2_with fail
        go_roundw
        case rel => exact ⟨k + 1, by omega, by go_num, Lib.hid (by rw [HS.out]; exact HR2.out.only ((Only.refl [] _).drewN 1) (by simp)), Lib.hid (HO2.out.drewN 1)⟩
        case measure => simp [intOf]; omega
    · obtain rfl : k = n - 1 := by omega
      go_wp2_with fail
      go_ret2
      exact ⟨g, rfl, HR.out, HG.out, HO.out⟩

end Go.Proofs.Ytipgbbhgmoehfaa

/-
  sweep: Random, and the reference's.
-/
namespace Go.Proofs.Ytipgbbhgmoehfaa
open Go.RowKit
set_option linter.unusedSimpArgs false
set_option linter.unusedSectionVars false

theorem Row.ints {w : World} {g n : Nat} {f : Nat → Nat} (h : Row w g n f) (hf : ∀ j, j < n → f j ≤ 9223372036854775807) (hn : n ≤ maxLen) : IntsIn w .i64 (some ⟨g, 0, none⟩) n (fun j => f j) :=
  ⟨fun _ => ⟨g, 0, rfl, h.lt, fun j hj => by rw [Nat.zero_add]; exact h.cell hj⟩, fun j hj => wf_of (by omega) (by have := hf j hj; omega), hn⟩
/-- An order that draws give picks edges. -/
theorem Picked.drawn {w : World} {n : Int} {me g : Nat} {E : Option Addr} {u v x : Nat → Int} {d : Nat → Nat} (hE : EdgesIn w E me u v x) (hk : GCode n me u v 0) (hR : Row w g me (sh me d (me - 1))) :
    Picked w n.toNat me me E (some ⟨g, 0, none⟩) u v x (fun j => sh me d (me - 1) j) (fun j => (u j).toNat) (fun j => (v j).toNat) (sh me d (me - 1)) := by
  obtain ⟨h1, h2⟩ := gcode_ok hk
  have hl : ∀ j, j < me → sh me d (me - 1) j < me := fun j hj => sh_lt d (me - 1) (by omega) j hj
  refine ⟨hE, hR.ints (fun j hj => by have := hl j hj; omega) (by unfold maxLen; omega), fun j hj => ?_, fun j hj => ⟨rfl, hl j hj⟩⟩
  have := h2 j hj
  unfold GoodE InE at this
  omega
def RandPost (n : Int) (me m : Nat) (u v : Nat → Int) (d : Nat → Nat) (w : World) (k : Int) (e : Ending) (w' : World) : Prop :=
  (k ≠ 0 ∧ e = .returned (.tuple #[.slice none 0 0, .int .i64 k]) ∧ Only [] w w') ∨ (k = 0 ∧ m + 1 < me ∧ e = .returned (.tuple #[.slice none 0 0, .int .i64 14]) ∧ Only [] w w') ∨
    (k = 0 ∧ me ≤ m + 1 ∧ ∃ vo, e = .returned (.tuple #[vo, .int .i64 0]) ∧ RowsAt w w' n.toNat (fun j => (u j).toNat) (fun j => (v j).toNat) (sh me d (me - 1)) me vo)

set_option maxRecDepth 100000 in
set_option maxHeartbeats 2000000 in
theorem SRandom_any (n : Int) (E D : Option Addr) (me ce m c : Nat) (u v x f : Nat → Int) (d : Nat → Nat) (w : World) (hE : EdgesIn w E me u v x) (hD : IntsIn w .u64 D m f) (hf : ∀ j, j < m → f j = d j) (hd : ∀ j, j < m → d j < 18446744073709551616) (k : Int) (hk : GCode n me u v k) :
    Calls Try.prog 40 #[.int .i64 n, .slice E me ce, .slice D m c] w (RandPost n me m u v d w k) := by
  have CG := Lib.hid (GNew_any n E me ce u v x w hE k hk)
  have hl := hE.len
  have hl2 := hD.len
  unfold maxLen at hl hl2
  have HE := Lib.hid hE
  have HD := Lib.hid hD
  have HF := Lib.hid hf
  have HU := Lib.hid hd
  have HK := Lib.hid hk
  clear hE hD hf hd hk
  go_enter Try.func40, Try.ntmps40
  go_wp2_with fail
  refine CG.out.mono ?_
  rintro e w1 ⟨hO, ⟨h0, rfl⟩ | ⟨rfl, G, S, L, A', c', fs, rfl, _⟩⟩
  · have HO := Lib.hid hO
    clear hO CG
    go_wp2_with fail
    go_ret2
    exact .inl ⟨h0, rfl, HO.out⟩
  · have HO := Lib.hid hO
    have hg := (gcode_ok HK.out).1
    clear hO CG
    by_cases hs : m + 1 < me
    · have q : (m : Int) < (me : Int) - 1 := by omega
      go_wp2_with fail
      go_ret2
      exact .inr (.inl ⟨rfl, hs, rfl, HO.out⟩)
    · have q : ¬ (m : Int) < (me : Int) - 1 := by omega
      have CD := Lib.hid (Draw_ok me D m c f d w1 (HD.out.only HO.out) HF.out (by omega) (by omega) HU.out)
      clear hs
      go_wp2_with fail
      refine CD.out.mono ?_
      rintro e w2 ⟨g, rfl, hr, _, hO2⟩
      have HO2 := Lib.hid (HO.out.trans hO2)
      have CP := Lib.hid (SPlainRows (ce := ce) (co := me) (Picked.drawn (n := n) (HE.out.only HO2.out) HK.out hr) (by omega) (show n.toNat ≤ 65536 by omega))
      have hN : ((n.toNat : Nat) : Int) = n := by omega
      rw [hN] at CP
      have hmm : me ≤ m + 1 := by omega
      clear hN hg hr hO2 CD
      go_wp2_with fail
      refine CP.out.mono ?_
      rintro e w3 ⟨vo, rfl, hr⟩
      have HR := Lib.hid (show RowsAt w w3 n.toNat (fun j => (u j).toNat) (fun j => (v j).toNat) (sh me d (me - 1)) me vo from ⟨owns_base hr.1 HO2.out.size, HO2.out.trans hr.2⟩)
      clear hr CP
      go_wp2_with fail
      go_ret2
      exact .inr (.inr ⟨rfl, hmm, vo, rfl, HR.out⟩)

end Go.Proofs.Ytipgbbhgmoehfaa

/-
  The reference of chapter 27: Random.
-/
namespace Go.Proofs.Ytipgbbhgmoehfaa
open Go.RowKit
set_option linter.unusedSimpArgs false
set_option linter.unusedSectionVars false

/-- A list of numbers of one's own, which may be nil where it is empty. -/
def OrdAt (B : Nat) (O : Option Addr) (n : Nat) (f : Nat → Nat) (W : World) : Prop := n = 0 ∨ ∃ g, O = some ⟨g, 0, none⟩ ∧ Row W g n f ∧ B ≤ g
theorem OrdAt.ints {B : Nat} {O : Option Addr} {n : Nat} {f : Nat → Nat} {W : World} (h : OrdAt B O n f W) (hf : ∀ j, j < n → f j ≤ 9223372036854775807) (hn : n ≤ maxLen) : IntsIn W .i64 O n (fun j => f j) := by
  rcases h with rfl | ⟨g, rfl, hr, _⟩
  · exact ⟨fun h => by omega, fun j hj => by omega, hn⟩
  · exact hr.ints hf hn
theorem ord_owned {W : World} {B n : Nat} {v : Value} {f : Nat → Nat} (h : W.ownsRow B 3 1 v n ((List.range n).map fun i => .int .i64 (f i : Nat))) : ∃ O c, v = .slice O n c ∧ OrdAt B O n f W := by
  obtain ⟨hl, ⟨rfl, rfl⟩ | ⟨g, cap, cur, rfl, hg, hh, hn, hc, hs, ht⟩⟩ := h
  · exact ⟨none, 0, rfl, .inl rfl⟩
  · refine ⟨_, cap, rfl, .inr ⟨g, rfl, ⟨cur, hh, fun i hi => ?_⟩, hg⟩⟩
    have : ((List.range n).map fun i => Value.int .i64 (f i : Nat))[i]? = some (.int .i64 (f i : Nat)) := by simp [hi]
    rw [← ht, List.getElem?_take, if_pos (by omega)] at this
    simpa using this
theorem range_ints_succ (k : Nat) : ((List.range (k + 1)).map fun i => Value.int .i64 ((i : Nat) : Int)) = ((List.range k).map fun i => Value.int .i64 ((i : Nat) : Int)) ++ [.int .i64 (k : Nat)] := by
  rw [List.range_succ, List.map_append]; rfl
theorem Picked.given {w : World} {n : Int} {me B : Nat} {E O : Option Addr} {u v x : Nat → Int} {d : Nat → Nat} (hE : EdgesIn w E me u v x) (hk : GCode n me u v 0) (hR : OrdAt B O me (sh me d (me - 1)) w) :
    Picked w n.toNat me me E O u v x (fun j => sh me d (me - 1) j) (fun j => (u j).toNat) (fun j => (v j).toNat) (sh me d (me - 1)) := by
  obtain ⟨h1, h2⟩ := gcode_ok hk
  have hl : ∀ j, j < me → sh me d (me - 1) j < me := fun j hj => sh_lt d (me - 1) (by omega) j hj
  refine ⟨hE, hR.ints (fun j hj => by have := hl j hj; omega) (by unfold maxLen; omega), fun j hj => ?_, fun j hj => ⟨rfl, hl j hj⟩⟩
  have := h2 j hj
  unfold GoodE InE at this
  omega

end Go.Proofs.Ytipgbbhgmoehfaa
