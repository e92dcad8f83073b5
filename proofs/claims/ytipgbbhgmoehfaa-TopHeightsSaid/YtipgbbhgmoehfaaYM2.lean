import Derived.Test.YtipgbbhgmoehfaaYK
import Derived.Test.YtipgbbhgmoehfaaYJ
import Derived.Test.YtipgbbhgmoehfaaYM
/-
  graph: a graph as it lies in memory; valid, N, parts.
-/
namespace Go.Proofs.Ytipgbbhgmoehfaa
open Go.RowKit
attribute [local go_sem] Oper.semAt_some
set_option linter.unusedSimpArgs false
set_option linter.unusedSectionVars false

/-- A graph of n vertices and these edges. -/
def GAt (W : World) (G n m : Nat) (u v x : Nat → Int) : Prop := ∃ S L A c, W.heap[G]? = some (.cells #[.pointer (some ⟨G, 0, none⟩), .slice A m c, .slice (some ⟨S, 0, none⟩) (n + 1) (n + 1), .slice (some ⟨L, 0, none⟩) (2 * m) (2 * m)] 89 (0, 0)) ∧ EdgesIn W A m u v x
theorem GAt.only {W W' : World} {G n m : Nat} {u v x : Nat → Int} (h : GAt W G n m u v x) (hO : Only [] W W') : GAt W' G n m u v x := by
  obtain ⟨S, L, A, c, h1, h2⟩ := h
  exact ⟨S, L, A, c, (hO.block G (heap_lt h1) (by simp)).trans h1, h2.only hO⟩
theorem GAt.of {w W : World} {n m G S L c : Nat} {A : Option Addr} {fs : Nat → Nat} {u v x : Nat → Int} (h : Bld w n m G S L A c fs W) (hE : EdgesIn W A m u v x) : GAt W G n m u v x := ⟨S, L, A, c, h.head, hE⟩
theorem graph_info : Try.prog.info? 89 = some ((Try.prog.info? 89).getD default) := by kernel_rfl
set_option maxRecDepth 100000 in
theorem gvalid_any {W : World} {G n m : Nat} {u v x : Nat → Int} (h : GAt W G n m u v x) : Calls Try.prog 37 #[.pointer (some ⟨G, 0, none⟩)] W fun e w' => e = .returned (.bool true) ∧ W = w' := by
  obtain ⟨S, L, A, c, hh, _⟩ := h
  have c0 := cell_of_heap (i := 0) hh rfl
  replace c0 : W.cell? ⟨G, 0, none⟩ = some (.pointer (some ⟨G, 0, none⟩)) := c0
  clear hh
  go_enter Try.func37, Try.ntmps37
  have he := fun W => run_eql_ptr_same (P := Try.prog) (w := W) (tp := 35) (te := 89) ⟨G, 0, none⟩ Try.underlying35 graph_info
  go_wp2
  go_ret
  exact ⟨rfl, rfl⟩
set_option maxRecDepth 100000 in
theorem gN_any {W : World} {G n m : Nat} {u v x : Nat → Int} (h : GAt W G n m u v x) (hn : n ≤ 65536) : Calls Try.prog 38 #[.pointer (some ⟨G, 0, none⟩)] W fun e w' => e = .returned (.int .i64 n) ∧ W = w' := by
  have CV := Lib.hid (gvalid_any h)
  obtain ⟨S, L, A, c, hh, _⟩ := h
  have c2 := cell_of_heap (i := 2) hh rfl
  replace c2 : W.cell? ⟨G, 2, none⟩ = some (.slice (some ⟨S, 0, none⟩) (n + 1) (n + 1)) := c2
  clear hh
  go_enter Try.func38, Try.ntmps38
  go_wp2_with fail
  refine CV.out.mono ?_
  rintro e w' ⟨rfl, rfl⟩
  go_wp2_with fail
  go_ret
  exact ⟨rfl, rfl⟩
set_option maxRecDepth 100000 in
set_option maxHeartbeats 2000000 in
theorem parts_any {W : World} {G n m : Nat} {u v x : Nat → Int} {p q : Nat → Nat} (h : GAt W G n m u v x) (hn : n ≤ 65536) (hpq : ∀ j, j < m → u j = p j ∧ v j = q j ∧ p j < n ∧ q j < n) : Calls Try.prog 67 #[.pointer (some ⟨G, 0, none⟩)] W fun e w' =>
    ∃ F S, e = .returned (.pointer (some ⟨S, 0, none⟩)) ∧ DsuAt w' F S n (labK p q id m) ∧ (∀ k, k ∈ F → W.heap.size ≤ k) ∧ Only [] W w' := by
  have CV := Lib.hid (gvalid_any h)
  have CN := Lib.hid (gN_any h hn)
  have CD := Lib.hid (DNew n hn W)
  have HGt := Lib.hid h
  obtain ⟨S0, L0, A, c, hh, hE⟩ := h
  have HE := Lib.hid hE
  have c1 := cell_of_heap (i := 1) hh rfl
  replace c1 : W.cell? ⟨G, 1, none⟩ = some (.slice A m c) := c1
  have HH := Lib.hid hh
  have hml := hE.len
  unfold maxLen at hml
  clear hh hE
  go_enter Try.func67, Try.ntmps67
  go_wp2_with fail
  refine CV.out.mono ?_
  rintro e w' ⟨rfl, rfl⟩
  go_wp2_with fail
  refine CN.out.mono ?_
  rintro e w' ⟨rfl, rfl⟩
  go_wp2_with fail
  refine CD.out.mono ?_
  rintro e w1 ⟨F, S, rfl, hd, hF, hO⟩
  have k1 := cell_of_heap (i := 1) ((hO.block G (heap_lt HH.out) (by simp)).trans HH.out) rfl
  replace k1 : w1.cell? ⟨G, 1, none⟩ = some (.slice A m c) := k1
  have H0 := Lib.hid (show ∃ F, DsuAt w1 F S n (labK p q id 0) ∧ (∀ k, k ∈ F → W.heap.size ≤ k) ∧ Only [] W w1 from ⟨F, hd, hF, hO⟩)
  clear hd hF hO CV CN CD c1
  go_wp2_with fail
  clear k1
  go_loopw [21] (fun i wr => ∃ k : Nat, k ≤ m ∧ i = .int .i64 k ∧ Hid (∃ F, DsuAt wr F S n (labK p q id k) ∧ (∀ k, k ∈ F → W.heap.size ≤ k) ∧ Only [] W wr)) (fun i _ => m - (intOf i).toNat)
  case atStart => exact ⟨0, Nat.zero_le _, rfl, H0⟩
  case round =>
    clear H0
    obtain ⟨k, hk, rfl, H1⟩ := hrel
    by_cases hlt : k < m
    · obtain ⟨F1, hd, hF, hO⟩ := H1.out
      obtain ⟨b, off, rfl, hb, e0, e1, e2⟩ := (HE.out.only hO).cell hlt
      obtain ⟨hu, hv, hpn, hqn⟩ := hpq k hlt
      rw [hu] at e0
      rw [hv] at e1
      have hOa := (Only.refl [] wr).alloc (.cells #[.int .i64 (p k), .int .i64 (q k), .int .i64 (x k)] 43)
      have CU := Lib.hid (DUnion (hd.only hOa (by simp)) (p k) (q k) hpn hqn)
      have HS := Lib.hid (labK_succ p q id k)
      have HX := Lib.hid (And.intro hF (hO.trans hOa))
      obtain ⟨a, ha⟩ : ∃ a, p k = a := ⟨_, rfl⟩
      obtain ⟨d, hd'⟩ : ∃ d, q k = d := ⟨_, rfl⟩
      rw [ha] at e0 CU hpn
      rw [hd'] at e1 CU hqn
      rw [ha, hd'] at HX
      have HAD := Lib.hid (And.intro ha hd')
      clear hd hF hO hOa H1 hu hv ha hd'
      go_wp2_with fail
      refine CU.out.mono ?_
      rintro e w2 ⟨rfl, hd2, hO2⟩
      have H2 := Lib.hid (show ∃ F, DsuAt w2 F S n (labK p q id (k + 1)) ∧ (∀ k, k ∈ F → W.heap.size ≤ k) ∧ Only [] W w2 from
        ⟨F1, by rw [HS.out]; show DsuAt w2 F1 S n (mer _ (labK p q id k (p k)) (labK p q id k (q k))); rw [HAD.out.1, HAD.out.2]; exact hd2, HX.out.1, HX.out.2.to hO2 fun i hi hlt => by have := HX.out.1 i hi; omega⟩)
      clear hd2 hO2 CU e0 e1 e2
      go_wp2_with fail
      go_roundw
      case rel => exact ⟨k + 1, by omega, by go_num, H2⟩
      case measure => simp [intOf]; omega
    · obtain rfl : k = m := by omega
      obtain ⟨F1, hd, hF, hO⟩ := H1.out
      have HX := Lib.hid (And.intro hd (And.intro hF hO))
      clear hd hF hO
      go_wp2_with fail
      go_ret
      exact ⟨F1, S, rfl, HX.out⟩

end Go.Proofs.Ytipgbbhgmoehfaa
