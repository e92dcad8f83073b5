import Derived.Test.YtipgbbhgmoehfaaYO
import Derived.Test.YtipgbbhgmoehfaaYM5
import Derived.Test.YtipgbbhgmoehfaaYU2
import Derived.Test.YtipgbbhgmoehfaaYE3
/-
  kruskal.Forest: the edges that unite two sets, in the order by weight.
-/
namespace Go.Proofs.Ytipgbbhgmoehfaa
open Go.RowKit
attribute [local go_sem] Oper.semAt_some
set_option linter.unusedSimpArgs false
set_option linter.unusedSectionVars false
set_option linter.unusedVariables false

/-- The forest's edges among the first j of an order. -/
def fl (p q o : Nat → Nat) : Nat → List Nat
  | 0 => []
  | j + 1 => if labK p q o j (p (o j)) = labK p q o j (q (o j)) then fl p q o j else fl p q o j ++ [o j]
theorem fl_len (p q o : Nat → Nat) : ∀ j, (fl p q o j).length ≤ j
  | 0 => Nat.le_refl _
  | j + 1 => by
    have := fl_len p q o j
    unfold fl
    split
    · omega
    · rw [List.length_append]
      show _ + 1 ≤ _
      omega
theorem only_grown {gs : List Nat} {w W w3 : World} {e : TypeId} {size n : Nat} {v : Value} {xs : List Value} {tmp : Obj} (hB : Only gs w W) (hrow : W.ownsRow w.heap.size e size v n xs) (hg : (W.alloc tmp).grownBy w3 v.ownBlock) : Only gs w w3 := by
  have h2 : Only [] w (W.alloc tmp) → Only [] w (W.alloc tmp) := id
  have hs : (W.alloc tmp).heap.size = W.heap.size + 1 := World.size_alloc _ _
  refine ⟨hg.os.trans hB.os, hg.tape.trans hB.tape, hg.output.trans hB.output, ?_, fun k hk hn => ?_⟩
  · have := hg.size
    have := hB.size
    omega
  · have hkw := Nat.lt_of_lt_of_le hk hB.size
    have e1 := hg.block k (by omega) (fun e => by have := hrow.lt k e.symm; omega)
    rw [e1, heap_alloc_old _ _ hkw]
    exact hB.block k hk hn
theorem owns_onlyG {gs : List Nat} {base : Nat} {W w3 : World} {e : TypeId} {size n : Nat} {v : Value} {xs : List Value} (hrow : W.ownsRow base e size v n xs) (hO : Only gs W w3) (hg : ∀ k, k ∈ gs → k < base) : w3.ownsRow base e size v n xs := by
  obtain ⟨hl, ⟨rfl, rfl⟩ | ⟨g, cap, cur, rfl, hb, hh, hr⟩⟩ := hrow
  · exact ⟨hl, .inl ⟨rfl, rfl⟩⟩
  · refine ⟨hl, .inr ⟨g, cap, cur, rfl, hb, (hO.block g (heap_lt hh) fun hm => ?_).trans hh, hr⟩⟩
    have := hg g hm
    omega
theorem fl_mem {p q o : Nat → Nat} {m : Nat} (h : ∀ {i}, i < m → o i < m) : ∀ {j}, j ≤ m → ∀ {a}, a ∈ fl p q o j → a < m
  | 0, _, _, ha => by cases ha
  | j + 1, hj, a, ha => by
    unfold fl at ha
    split at ha
    · exact fl_mem h (by omega) ha
    · rcases List.mem_append.1 ha with ha | ha
      · exact fl_mem h (by omega) ha
      · rw [List.mem_singleton.1 ha]; exact h (by omega)
/-- A list of natural numbers as values. -/
def natL (l : List Nat) : List Value := l.map fun i => .int .i64 ((i : Nat) : Int)
theorem natL_sel (l : List Nat) : natL l = (List.range l.length).map fun i => .int .i64 ((fun i => ((sel l i : Nat) : Int)) i) := by
  conv => lhs; rw [list_getD l]
  unfold natL sel
  rw [List.map_map]
  rfl
/-- Either the code of what is wrong, or the forest. -/
def ForestPost (n : Int) (m : Nat) (u v x : Nat → Int) (k : Int) (w : World) (e : Ending) (w' : World) : Prop :=
  Only [] w w' ∧ ((k ≠ 0 ∧ e = .returned (.tuple #[.slice none 0 0, .int .i64 k])) ∨ (k = 0 ∧ ∃ o A c, ByWeight m x o ∧ e = .returned (.tuple #[.slice A (fl (nat u) (nat v) o m).length c, .int .i64 0]) ∧
    IntsIn w' .i64 A (fl (nat u) (nat v) o m).length (fun i => ((sel (fl (nat u) (nat v) o m) i : Nat) : Int))))

set_option maxRecDepth 100000 in
set_option maxHeartbeats 4000000 in
theorem Forest_any (n : Int) (A : Option Addr) (m c : Nat) (u v x : Nat → Int) (w : World) (h : EdgesIn w A m u v x) (k : Int) (hk : GCode n m u v k) : Calls Try.prog 43 #[.int .i64 n, .slice A m c] w (ForestPost n m u v x k w) := by
  obtain ⟨i1, gi, gz0, gz1, gz2⟩ := info_parts infoInt
  have CG := Lib.hid (GNew_any n A m c u v x w h k hk)
  have HE := Lib.hid h
  have HK := Lib.hid hk
  have HAb := Lib.hid (show 0 < m → ∀ b off, A = some ⟨b, off, none⟩ → b < w.heap.size from fun hm0 b off hA => by
    obtain ⟨b', off', hA', hb, _⟩ := h.row hm0
    rw [hA] at hA'
    cases hA'
    exact hb)
  clear h hk
  go_enter Try.func43, Try.ntmps43
  go_wp2_with fail
  refine CG.out.mono ?_
  rintro e w1 ⟨hO1, ⟨h0, rfl⟩ | ⟨rfl, G, S0, L0, A0, c0, fs, rfl, _⟩⟩
  · have q1 : (k != 0) = true := by simpa using h0
    have HO1 := Lib.hid hO1
    clear hO1
    go_wp2_with fail
    go_ret2
    exact ⟨HO1.out, .inl ⟨h0, rfl⟩⟩
  obtain ⟨⟨hn0, hn1, hm⟩, hg⟩ := gcode_ok HK.out
  obtain ⟨n, rfl⟩ : ∃ n' : Nat, n = (n' : Int) := ⟨n.toNat, by omega⟩
  have Hg := Lib.hid (show ∀ j, j < m → u j = nat u j ∧ v j = nat v j ∧ nat u j < n ∧ nat v j < n from fun j hj => by
    have h2 := (hg j hj).1
    unfold InE at h2
    unfold nat
    omega)
  have CD := Lib.hid (DNew n (by omega) w1)
  have HO1 := Lib.hid hO1
  clear hg hO1 CG HK
  go_wp2_with fail
  refine CD.out.mono ?_
  rintro e w2 ⟨F, S, rfl, hd, hF, hO2⟩
  have HD2 := Lib.hid hd
  have HF := Lib.hid hF
  have HO2 := Lib.hid (HO1.out.trans hO2)
  have HS1 := Lib.hid HO1.out.size
  have HF' := Lib.hid (hd.lt)
  have CO := Lib.hid (Order_any A m c u v x w2 (HE.out.only HO2.out) (by omega))
  clear hd hF hO2 CD HO1
  go_wp2_with fail
  refine CO.out.mono ?_
  rintro e w3 ⟨g, o, rfl, hR, hb, hgl, hO3⟩
  have HD3 := Lib.hid (HD2.out.only hO3 (by simp))
  have HR := Lib.hid hR
  have HB := Lib.hid hb
  have HS := Lib.hid (And.intro HO2.out.size hO3.size)
  have HFw := Lib.hid (show ∀ i, i ∈ F → w.heap.size ≤ i ∧ i < w3.heap.size ∧ i ≠ g from fun i hi => by
    have h1 := HF.out i hi
    have h2 := HF'.out i hi
    have h3 := HS.out
    have h4 := HS1.out
    omega)
  have HO3 := Lib.hid (HO2.out.trans hO3)
  have HE3 := Lib.hid (HE.out.only HO3.out)
  have HBw := Lib.hid (Below.refl w3.heap.size w3)
  clear hR hb hO3 CO HD2 HF HF' HO2 HS HS1 hgl HE
  go_wp2_with fail
  go_loopw [10, 35] (fun vs i wr => ∃ j : Nat, j ≤ m ∧ i = .int .i64 j ∧ Hid (wr.ownsRow w3.heap.size 3 1 vs (fl (nat u) (nat v) o j).length (natL (fl (nat u) (nat v) o j))) ∧ Hid (DsuAt wr F S n (labK (nat u) (nat v) o j)) ∧ Hid (Only F w3 wr)) (fun _ i _ => m - (intOf i).toNat)
  case atStart => exact ⟨0, Nat.zero_le _, rfl, Lib.hid (World.ownsRow_nil _ _ _ _), HD3, Lib.hid (Only.refl _ _)⟩
  case round =>
    obtain ⟨j, hj, rfl, HR1, HD, HO⟩ := hrel
    by_cases hlt : j < m
    · have hob := HB.out.lt hlt
      have hc := (HR.out.only HO.out fun hi => (HFw.out g hi).2.2 rfl).cell hlt
      have HSt := Lib.hid (show ∀ W, Only F w3 W → ∃ b off, A = some ⟨b, off, none⟩ ∧ W.cell? ⟨b, off + o j * 3, none⟩ = some (.int .i64 (nat u (o j))) ∧ W.cell? ⟨b, off + o j * 3 + 1, none⟩ = some (.int .i64 (nat v (o j))) from fun W hW => by
        obtain ⟨b, off, hA, hb, e0, e1, e2⟩ := HE3.out.cell hob
        have hbl : b ∉ F := fun hi => by
          have := HAb.out (by omega) b off hA
          have := (HFw.out b hi).1
          omega
        have ek := hW.block b hb hbl
        obtain ⟨hu, hv, _, _⟩ := Hg.out _ hob
        rw [hu] at e0
        rw [hv] at e1
        exact ⟨b, off, hA, (World.cell?_of_block ek).trans e0, (World.cell?_of_block ek).trans e1⟩)
      obtain ⟨b, off, rfl, e0, e1⟩ := HSt.out wr HO.out
      have HSt2 := Lib.hid (show ∀ W, Only F w3 W → W.cell? ⟨b, off + o j * 3, none⟩ = some (.int .i64 (nat u (o j))) ∧ W.cell? ⟨b, off + o j * 3 + 1, none⟩ = some (.int .i64 (nat v (o j))) from fun W hW => by
        obtain ⟨b', off', hA, g0, g1⟩ := HSt.out W hW
        cases hA
        exact ⟨g0, g1⟩)
      clear HSt
      have CU := Lib.hid (fun W (hW : Only [] wr W) => DUnion (HD.out.only hW (by simp)) (nat u (o j)) (nat v (o j)) (Hg.out _ hob).2.2.1 (Hg.out _ hob).2.2.2)
      have HL := Lib.hid (labK_succ (nat u) (nat v) o j)
      have HLl := Lib.hid (fl_len (nat u) (nat v) o j)
      have HF1 := Lib.hid (show labK (nat u) (nat v) o j (nat u (o j)) = labK (nat u) (nat v) o j (nat v (o j)) → fl (nat u) (nat v) o (j + 1) = fl (nat u) (nat v) o j from fun e => if_pos e)
      have HF2 := Lib.hid (show ¬ labK (nat u) (nat v) o j (nat u (o j)) = labK (nat u) (nat v) o j (nat v (o j)) → fl (nat u) (nat v) o (j + 1) = fl (nat u) (nat v) o j ++ [o j] from fun e => if_neg e)
      obtain ⟨a, ha⟩ : ∃ a, o j = a := ⟨_, rfl⟩
      rw [ha] at hc e0 e1 CU HL HF1 HF2 hob HSt2
      obtain ⟨ya, hya⟩ : ∃ ya, nat u a = ya := ⟨_, rfl⟩
      obtain ⟨yb, hyb⟩ : ∃ yb, nat v a = yb := ⟨_, rfl⟩
      rw [hya] at e0 CU HL HF1 HF2
      rw [hyb] at e1 CU HL HF1 HF2
      simp only [hya, hyb] at HSt2
      obtain ⟨la, hla⟩ : ∃ la, labK (nat u) (nat v) o j = la := ⟨_, rfl⟩
      rw [hla] at CU HL HF1 HF2
      clear ha hya hyb hla HD
      go_wp2_with fail
      go_region_held3 (fun w' => w'.cell? ⟨b, off + a * 3, none⟩ = some (.int .i64 ya) ∧ w'.cell? ⟨b, off + a * 3 + 1, none⟩ = some (.int .i64 yb)) (first | exact ⟨e0, e1⟩ | exact e0 | exact e1 | exact hS7 | exact hS7.1 | exact hS7.2)
        ((go_at_call 71; refine (CU.out _ ?_).mono ?_; (first | exact Only.refl _ _ | exact (Only.refl _ _).drewN 1); rintro e wC ⟨rfl, hdC, hOC⟩; have HOC := Lib.hid (HO.out.trans ((Only.refl F wr).drewN 1 |>.trans hOC)); have HDC := Lib.hid hdC; have hOC1 := Lib.hid hOC; have hS7 := HSt2.out wC HOC.out; clear hOC hdC))
      have hD2 : DsuAt wC F S n (labK (nat u) (nat v) o (j + 1)) := by
        rw [HL.out]
        exact HDC.out
      have HD2 := Lib.hid hD2
      have hrow := owns_onlyG HR1.out (((Only.refl F wr).drewN 1).trans hOC1.out) fun k hk => (HFw.out k hk).2.1
      clear hD2 hS7 HDC HL HAb hc e0 e1 CU HR1 HSt2
      by_cases he : la ya = la yb
      · have q1 : decide (la ya = la yb) = true := decide_eq_true he
        have HN := Lib.hid (show wC.ownsRow w3.heap.size 3 1 u10 (fl (nat u) (nat v) o (j + 1)).length (natL (fl (nat u) (nat v) o (j + 1))) by rw [HF1.out he]; exact hrow)
        rw [q1]
        clear hrow he q1
        go_wp2_with fail
        exact ⟨⟨j + 1, by omega, by go_num, HN, HD2, HOC⟩, by simp [intOf]; omega⟩
      · have q1 : decide (la ya = la yb) = false := decide_eq_false he
        have HF := Lib.hid (HF2.out he)
        have hlen := HLl.out
        have hsz := HOC.out.size
        obtain ⟨lq, hlq⟩ : ∃ lq, (fl (nat u) (nat v) o j).length = lq := ⟨_, rfl⟩
        rw [hlq] at hrow hlen
        have HLq := Lib.hid hlq
        rw [q1]
        clear he hlq q1
        go_wp2_with (at_builtin; refine wpList_append_own _ rfl _ _ 30 rfl w3.heap.size 3 i1 (.int .i64 0) 1 8 Try.underlying30 gi gz0 gz1 gz2 rfl (by decide) _ _ _ rfl (hrow.alloc _) ⟨_, 0, none⟩ 1 1 [.int .i64 a] rfl rfl (cell_one_new _ _ _) (by simp [Value.oneCell']) (by unfold maxLen; omega) (by omega) (by simp; omega) ?_; intro v' w1' hown' hgrow _; have HN := Lib.hid (show w1'.ownsRow w3.heap.size 3 1 v' (fl (nat u) (nat v) o (j + 1)).length (natL (fl (nat u) (nat v) o (j + 1))) by rw [HF.out, List.length_append, HLq.out]; unfold natL; rw [List.map_append]; exact hown'); have HO' := Lib.hid (only_grown HOC.out hrow hgrow); have HD' := Lib.hid (HD2.out.same fun k hk => (hgrow.block k (by have := (HFw.out k hk).2.1; have := HOC.out.size; have := World.size_alloc wC (.cells #[.int .i64 a] 3); omega) (fun e => by have := hrow.lt k e.symm; have := (HFw.out k hk).2.1; omega)).trans (heap_alloc_old _ _ (by have := (HFw.out k hk).2.1; have := HOC.out.size; omega))); clear hown' hgrow hrow)
        exact ⟨⟨j + 1, by omega, by go_num, HN, HD', HO'⟩, by simp [intOf]; omega⟩
    · obtain rfl : j = m := by omega
      have hso := HR1.out
      rw [natL_sel] at hso
      obtain ⟨As, cs, rfl, hIs⟩ := ints_owned2 hso (fun i hi => wf_of (by omega) (by
        have := fl_mem (p := nat u) (q := nat v) (o := o) HB.out.lt (Nat.le_refl _) (sel_at hi)
        omega))
      have HIs := Lib.hid hIs
      clear hso hIs HR1
      go_wp2_with fail
      go_ret2
      exact ⟨HO3.out.to HO.out fun i hi hlt => by have := (HFw.out i hi).1; omega, .inr ⟨rfl, o, As, cs, HB.out, rfl, HIs.out⟩⟩

end Go.Proofs.Ytipgbbhgmoehfaa
