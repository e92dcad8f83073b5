import Derived.RegionTactic
import Derived.Test.YtipgbbhgmoehfaaDoorYO
import Derived.Test.YtipgbbhgmoehfaaDoorZ7
import Derived.Test.YtipgbbhgmoehfaaDoorYF
import Derived.Test.YtipgbbhgmoehfaaDoorYTP
/-
  kruskal.Forest: the edges that unite two sets, in the order by weight.
-/
namespace Go.Proofs.YtipgbbhgmoehfaaDoor
open Go.RowKit
attribute [local go_sem] Oper.semAt_some
set_option linter.unusedSimpArgs false
set_option linter.unusedSectionVars false
set_option linter.unusedVariables false

/-- The forest's edges among the first j of an order. -/
def fl (p q o : Nat → Nat) : Nat → List Nat
  | 0 => []
  | j + 1 => if labK p q o j (p (o j)) = labK p q o j (q (o j)) then fl p q o j else fl p q o j ++ [o j]
theorem fl_len (p q o : Nat → Nat) : ∀ j, (fl p q o j).length ≤ j
  | 0 => Nat.le_refl _
  | j + 1 => by
    have := fl_len p q o j
    unfold fl
    split
    · omega
    · rw [List.length_append]
      show _ + 1 ≤ _
      omega
theorem only_grown {gs : List Nat} {w W w3 : World} {e : TypeId} {size n : Nat} {v : Value} {xs : List Value} {tmp : Obj} (hB : Only gs w W) (hrow : W.ownsRow w.heap.size e size v n xs) (hg : (W.alloc tmp).grownBy w3 v.ownBlock) : Only gs w w3 := by
  have h2 : Only [] w (W.alloc tmp) → Only [] w (W.alloc tmp) := id
  have hs : (W.alloc tmp).heap.size = W.heap.size + 1 := World.size_alloc _ _
  refine ⟨hg.os.trans hB.os, hg.tape.trans hB.tape, hg.output.trans hB.output, ?_, fun k hk hn => ?_⟩
  · have := hg.size
    have := hB.size
    omega
  · have hkw := Nat.lt_of_lt_of_le hk hB.size
    have e1 := hg.block k (by omega) (fun e => by have := hrow.lt k e.symm; omega)
    rw [e1, heap_alloc_old _ _ hkw]
    exact hB.block k hk hn
theorem owns_onlyG {gs : List Nat} {base : Nat} {W w3 : World} {e : TypeId} {size n : Nat} {v : Value} {xs : List Value} (hrow : W.ownsRow base e size v n xs) (hO : Only gs W w3) (hg : ∀ k, k ∈ gs → k < base) : w3.ownsRow base e size v n xs := by
  obtain ⟨hl, ⟨rfl, rfl⟩ | ⟨g, cap, cur, rfl, hb, hh, hr⟩⟩ := hrow
  · exact ⟨hl, .inl ⟨rfl, rfl⟩⟩
  · refine ⟨hl, .inr ⟨g, cap, cur, rfl, hb, (hO.block g (heap_lt hh) fun hm => ?_).trans hh, hr⟩⟩
    have := hg g hm
    omega
theorem fl_mem {p q o : Nat → Nat} {m : Nat} (h : ∀ {i}, i < m → o i < m) : ∀ {j}, j ≤ m → ∀ {a}, a ∈ fl p q o j → a < m
  | 0, _, _, ha => by cases ha
  | j + 1, hj, a, ha => by
    unfold fl at ha
    split at ha
    · exact fl_mem h (by omega) ha
    · rcases List.mem_append.1 ha with ha | ha
      · exact fl_mem h (by omega) ha
      · rw [List.mem_singleton.1 ha]; exact h (by omega)
/-- A list of natural numbers as values. -/
def natL (l : List Nat) : List Value := l.map fun i => .int .i64 ((i : Nat) : Int)
theorem natL_sel (l : List Nat) : natL l = (List.range l.length).map fun i => .int .i64 ((fun i => ((sel l i : Nat) : Int)) i) := by
  conv => lhs; rw [list_getD l]
  unfold natL sel
  rw [List.map_map]
  rfl
/-- Either the code of what is wrong, or the forest. -/
def ForestPost (n : Int) (m : Nat) (u v x : Nat → Int) (k : Int) (w : World) (e : Ending) (w' : World) : Prop :=
  Only [] w w' ∧ ((k ≠ 0 ∧ e = .returned (.tuple #[.slice none 0 0, .int .i64 k])) ∨ (k = 0 ∧ ∃ o A c, ByWeight m x o ∧ e = .returned (.tuple #[.slice A (fl (nat u) (nat v) o m).length c, .int .i64 0]) ∧
    IntsIn w' .i64 A (fl (nat u) (nat v) o m).length (fun i => ((sel (fl (nat u) (nat v) o m) i : Nat) : Int))))

set_option maxRecDepth 100000 in
set_option maxHeartbeats 4000000 in
theorem Forest_any (n : Int) (A : Option Addr) (m c : Nat) (u v x : Nat → Int) (w : World) (h : EdgesIn w A m u v x) (k : Int) (hk : GCode n m u v k) : Calls Tryd.prog 11 #[.int .i64 n, .slice A m c] w (ForestPost n m u v x k w) := by
  obtain ⟨i1, gi, gz0, gz1, gz2⟩ := info_parts infoInt
  have CG := Lib.hid (GNew_any n A m c u v x w h k hk)
  have HE := Lib.hid h
  have HK := Lib.hid hk
  have HAb := Lib.hid (show 0 < m → ∀ b off, A = some ⟨b, off, none⟩ → b < w.heap.size from fun hm0 b off hA => by
    obtain ⟨b', off', hA', hb, _⟩ := h.row hm0
    rw [hA] at hA'
    cases hA'
    exact hb)
  clear h hk
  go_enter Tryd.func11, Tryd.ntmps11
  go_wp2_with fail
  refine CG.out.mono ?_
  rintro e w1 ⟨hO1, ⟨h0, rfl⟩ | ⟨rfl, G, S0, L0, A0, c0, fs, rfl, _⟩⟩
  · have q1 : (k != 0) = true := by simpa using h0
    have HO1 := Lib.hid hO1
    clear hO1
    go_wp2_with fail
    go_ret2
    exact ⟨HO1.out, .inl ⟨h0, rfl⟩⟩
  obtain ⟨⟨hn0, hn1, hm⟩, hg⟩ := gcode_ok HK.out
  obtain ⟨n, rfl⟩ : ∃ n' : Nat, n = (n' : Int) := ⟨n.toNat, by omega⟩
  have Hg := Lib.hid (show ∀ j, j < m → u j = nat u j ∧ v j = nat v j ∧ nat u j < n ∧ nat v j < n from fun j hj => by
    have h2 := (hg j hj).1
    unfold InE at h2
    unfold nat
    omega)
  have CD := Lib.hid (DNew n (by omega) w1)
  have HO1 := Lib.hid hO1
  clear hg hO1 CG HK
  go_wp2_with fail
  refine CD.out.mono ?_
  rintro e w2 ⟨F, S, rfl, hd, hF, hO2⟩
  have HD2 := Lib.hid hd
  have HF := Lib.hid hF
  have HO2 := Lib.hid (HO1.out.trans hO2)
  have HS1 := Lib.hid HO1.out.size
  have HF' := Lib.hid (hd.lt)
  have CO := Lib.hid (Order_any A m c u v x w2 (HE.out.only HO2.out) (by omega))
  clear hd hF hO2 CD HO1
  go_wp2_with fail
  refine CO.out.mono ?_
  rintro e w3 ⟨g, o, rfl, hR, hb, hgl, hO3⟩
  have HD3 := Lib.hid (HD2.out.only hO3 (by simp))
  have HR := Lib.hid hR
  have HB := Lib.hid hb
  have HS := Lib.hid (And.intro HO2.out.size hO3.size)
  have HFw := Lib.hid (show ∀ i, i ∈ F → w.heap.size ≤ i ∧ i < w3.heap.size ∧ i ≠ g from fun i hi => by
    have h1 := HF.out i hi
    have h2 := HF'.out i hi
    have h3 := HS.out
    have h4 := HS1.out
    omega)
  have HO3 := Lib.hid (HO2.out.trans hO3)
  have HE3 := Lib.hid (HE.out.only HO3.out)
  have HBw := Lib.hid (Below.refl w3.heap.size w3)
  clear hR hb hO3 CO HD2 HF HF' HO2 HS HS1 hgl HE
  go_wp2_with fail
  go_loopw [10, 35] (fun vs i wr => ∃ j : Nat, j ≤ m ∧ i = .int .i64 j ∧ Hid (wr.ownsRow w3.heap.size 3 1 vs (fl (nat u) (nat v) o j).length (natL (fl (nat u) (nat v) o j))) ∧ Hid (DsuAt wr F S n (labK (nat u) (nat v) o j)) ∧ Hid (Only F w3 wr)) (fun _ i _ => m - (intOf i).toNat)
  case atStart => exact ⟨0, Nat.zero_le _, rfl, Lib.hid (World.ownsRow_nil _ _ _ _), HD3, Lib.hid (Only.refl _ _)⟩
  case round =>
    obtain ⟨j, hj, rfl, HR1, HD, HO⟩ := hrel
    by_cases hlt : j < m
    · have hob := HB.out.lt hlt
      have hc := (HR.out.only HO.out fun hi => (HFw.out g hi).2.2 rfl).cell hlt
      have HSt := Lib.hid (show ∀ W, Only F w3 W → ∃ b off, A = some ⟨b, off, none⟩ ∧ W.cell? ⟨b, off + o j * 3, none⟩ = some (.int .i64 (nat u (o j))) ∧ W.cell? ⟨b, off + o j * 3 + 1, none⟩ = some (.int .i64 (nat v (o j))) from fun W hW => by
        obtain ⟨b, off, hA, hb, e0, e1, e2⟩ := HE3.out.cell hob
        have hbl : b ∉ F := fun hi => by
          have := HAb.out (by omega) b off hA
          have := (HFw.out b hi).1
          omega
        have ek := hW.block b hb hbl
        obtain ⟨hu, hv, _, _⟩ := Hg.out _ hob
        rw [hu] at e0
        rw [hv] at e1
        exact ⟨b, off, hA, (World.cell?_of_block ek).trans e0, (World.cell?_of_block ek).trans e1⟩)
      obtain ⟨b, off, rfl, e0, e1⟩ := HSt.out wr HO.out
      have HSt2 := Lib.hid (show ∀ W, Only F w3 W → W.cell? ⟨b, off + o j * 3, none⟩ = some (.int .i64 (nat u (o j))) ∧ W.cell? ⟨b, off + o j * 3 + 1, none⟩ = some (.int .i64 (nat v (o j))) from fun W hW => by
        obtain ⟨b', off', hA, g0, g1⟩ := HSt.out W hW
        cases hA
        exact ⟨g0, g1⟩)
      clear HSt
      have CU := Lib.hid (fun W (hW : Only [] wr W) => DUnion (HD.out.only hW (by simp)) (nat u (o j)) (nat v (o j)) (Hg.out _ hob).2.2.1 (Hg.out _ hob).2.2.2)
      have HL := Lib.hid (labK_succ (nat u) (nat v) o j)
      have HLl := Lib.hid (fl_len (nat u) (nat v) o j)
      have HF1 := Lib.hid (show labK (nat u) (nat v) o j (nat u (o j)) = labK (nat u) (nat v) o j (nat v (o j)) → fl (nat u) (nat v) o (j + 1) = fl (nat u) (nat v) o j from fun e => if_pos e)
      have HF2 := Lib.hid (show ¬ labK (nat u) (nat v) o j (nat u (o j)) = labK (nat u) (nat v) o j (nat v (o j)) → fl (nat u) (nat v) o (j + 1) = fl (nat u) (nat v) o j ++ [o j] from fun e => if_neg e)
      obtain ⟨a, ha⟩ : ∃ a, o j = a := ⟨_, rfl⟩
      rw [ha] at hc e0 e1 CU HL HF1 HF2 hob HSt2
      obtain ⟨ya, hya⟩ : ∃ ya, nat u a = ya := ⟨_, rfl⟩
      obtain ⟨yb, hyb⟩ : ∃ yb, nat v a = yb := ⟨_, rfl⟩
      rw [hya] at e0 CU HL HF1 HF2
      rw [hyb] at e1 CU HL HF1 HF2
      simp only [hya, hyb] at HSt2
      obtain ⟨la, hla⟩ : ∃ la, labK (nat u) (nat v) o j = la := ⟨_, rfl⟩
      rw [hla] at CU HL HF1 HF2
      clear ha hya hyb hla HD
      go_wp2_with fail
      go_region_held3 (fun w' => w'.cell? ⟨b, off + a * 3, none⟩ = some (.int .i64 ya) ∧ w'.cell? ⟨b, off + a * 3 + 1, none⟩ = some (.int .i64 yb)) (first | exact ⟨e0, e1⟩ | exact e0 | exact e1 | exact hS7 | exact hS7.1 | exact hS7.2)
        ((go_at_call 27; refine (CU.out _ ?_).mono ?_; (first | exact Only.refl _ _ | exact (Only.refl _ _).drewN 1); rintro e wC ⟨rfl, hdC, hOC⟩; have HOC := Lib.hid (HO.out.trans ((Only.refl F wr).drewN 1 |>.trans hOC)); have HDC := Lib.hid hdC; have hOC1 := Lib.hid hOC; have hS7 := HSt2.out wC HOC.out; clear hOC hdC))
      have hD2 : DsuAt wC F S n (labK (nat u) (nat v) o (j + 1)) := by
        rw [HL.out]
        exact HDC.out
      have HD2 := Lib.hid hD2
      have hrow := owns_onlyG HR1.out (((Only.refl F wr).drewN 1).trans hOC1.out) fun k hk => (HFw.out k hk).2.1
      clear hD2 hS7 HDC HL HAb hc e0 e1 CU HR1 HSt2
      by_cases he : la ya = la yb
      · have q1 : decide (la ya = la yb) = true := decide_eq_true he
        have HN := Lib.hid (show wC.ownsRow w3.heap.size 3 1 u10 (fl (nat u) (nat v) o (j + 1)).length (natL (fl (nat u) (nat v) o (j + 1))) by rw [HF1.out he]; exact hrow)
        rw [q1]
        clear hrow he q1
        go_wp2_with fail
        exact ⟨⟨j + 1, by omega, by go_num, HN, HD2, HOC⟩, by simp [intOf]; omega⟩
      · have q1 : decide (la ya = la yb) = false := decide_eq_false he
        have HF := Lib.hid (HF2.out he)
        have hlen := HLl.out
        have hsz := HOC.out.size
        obtain ⟨lq, hlq⟩ : ∃ lq, (fl (nat u) (nat v) o j).length = lq := ⟨_, rfl⟩
        rw [hlq] at hrow hlen
        have HLq := Lib.hid hlq
        rw [q1]
        clear he hlq q1
        go_wp2_with (at_builtin; refine wpList_append_own _ rfl _ _ 31 rfl w3.heap.size 3 i1 (.int .i64 0) 1 8 Tryd.underlying31 gi gz0 gz1 gz2 rfl (by decide) _ _ _ rfl (hrow.alloc _) ⟨_, 0, none⟩ 1 1 [.int .i64 a] rfl rfl (cell_one_new _ _ _) (by simp [Value.oneCell']) (by unfold maxLen; omega) (by omega) (by simp; omega) ?_; intro v' w1' hown' hgrow _; have HN := Lib.hid (show w1'.ownsRow w3.heap.size 3 1 v' (fl (nat u) (nat v) o (j + 1)).length (natL (fl (nat u) (nat v) o (j + 1))) by rw [HF.out, List.length_append, HLq.out]; unfold natL; rw [List.map_append]; exact hown'); have HO' := Lib.hid (only_grown HOC.out hrow hgrow); have HD' := Lib.hid (HD2.out.same fun k hk => (hgrow.block k (by have := (HFw.out k hk).2.1; have := HOC.out.size; have := World.size_alloc wC (.cells #[.int .i64 a] 3); omega) (fun e => by have := hrow.lt k e.symm; have := (HFw.out k hk).2.1; omega)).trans (heap_alloc_old _ _ (by have := (HFw.out k hk).2.1; have := HOC.out.size; omega))); clear hown' hgrow hrow)
        exact ⟨⟨j + 1, by omega, by go_num, HN, HD', HO'⟩, by simp [intOf]; omega⟩
    · obtain rfl : j = m := by omega
      have hso := HR1.out
      rw [natL_sel] at hso
      obtain ⟨As, cs, rfl, hIs⟩ := ints_owned2 hso (fun i hi => wf_of (by omega) (by
        have := fl_mem (p := nat u) (q := nat v) (o := o) HB.out.lt (Nat.le_refl _) (sel_at hi)
        omega))
      have HIs := Lib.hid hIs
      clear hso hIs HR1
      go_wp2_with fail
      go_ret2
      exact ⟨HO3.out.to HO.out fun i hi hlt => by have := (HFw.out i hi).1; omega, .inr ⟨rfl, o, As, cs, HB.out, rfl, HIs.out⟩⟩

end Go.Proofs.YtipgbbhgmoehfaaDoor

/-
  A drawn region that makes several rows of one length: one law for all orders.
-/
namespace Go.Proofs.YtipgbbhgmoehfaaDoor
open Go.RowKit
set_option linter.unusedSimpArgs false
set_option linter.unusedVariables false

/-- The operations of D are done, besides those that were. -/
def mkL (listed : Array Bool) (D : List Nat) : Array Bool := listed.mapIdx fun j b => b || D.contains j
theorem mkL_nil (listed : Array Bool) : mkL listed [] = listed := by
  unfold mkL
  apply Array.ext_getElem?
  intro i
  simp
theorem mkL_set (listed : Array Bool) (D : List Nat) (i : Nat) : (mkL listed D).setIfInBounds i true = mkL listed (i :: D) := by
  unfold mkL
  apply Array.ext_getElem?
  intro j
  rw [Array.getElem?_setIfInBounds]
  by_cases e : i = j
  · subst e
    by_cases hs : i < listed.size
    · simp [hs]
    · simp [hs]
  · rw [if_neg e]
    have e2 : (j == i) = false := by simpa using fun h : j = i => e h.symm
    have e3 : ¬ j = i := fun h => e h.symm
    simp [e2, e3]
theorem mkL_congr (listed : Array Bool) {D D' : List Nat} (h : ∀ i, i ∈ D ↔ i ∈ D') : mkL listed D = mkL listed D' := by
  unfold mkL
  congr 1
  funext j b
  congr 1
  rw [Bool.eq_iff_iff]
  simp [h]
def subs : List Nat → List (List Nat)
  | [] => [[]]
  | x :: l => subs l ++ (subs l).map (x :: ·)
theorem subs_filter (p : Nat → Bool) : ∀ l : List Nat, l.filter p ∈ subs l
  | [] => by simp [subs]
  | x :: l => by
    have := subs_filter p l
    unfold subs
    cases h : p x with
    | false => rw [List.filter_cons_of_neg (by simp [h])]; exact List.mem_append.2 (.inl this)
    | true => rw [List.filter_cons_of_pos h]; exact List.mem_append.2 (.inr (List.mem_map.2 ⟨_, this, rfl⟩))
theorem len_sub : ∀ (D S : List Nat), D.Nodup → (∀ i, i ∈ D → i ∈ S) → D.length ≤ S.length
  | [], _, _, _ => Nat.zero_le _
  | x :: D, S, hn, hs => by
    rw [List.nodup_cons] at hn
    have hx := hs x (by simp)
    have h1 := len_sub D (S.erase x) hn.2 fun i hi => (List.mem_erase_of_ne (fun e => hn.1 (by rw [← e]; exact hi))).2 (hs i (by simp [hi]))
    rw [List.length_erase_of_mem hx] at h1
    have := List.length_pos_of_mem hx
    simp only [List.length_cons]
    omega
theorem sub_all {D S : List Nat} (hn : D.Nodup) (hs : ∀ i, i ∈ D → i ∈ S) (hl : S.length ≤ D.length) : ∀ i, i ∈ S → i ∈ D := fun i hi => by
  by_cases h : i ∈ D
  · exact h
  · have := len_sub (i :: D) S (List.nodup_cons.2 ⟨h, hn⟩) fun j hj => by
      rcases List.mem_cons.1 hj with rfl | hj
      · exact hi
      · exact hs j hj
    simp only [List.length_cons] at this
    omega
/-- The rows are put into their slots. -/
def putsL (a : Act) (S : List Nat) (dst : Nat → Nat) (v : Nat → Value) : Act := S.foldl (fun a i => a.put (some (dst i)) (v i)) a
theorem act_eq {dst : Nat → Nat} {v : Nat → Value} : ∀ (S : List Nat) (a0 a : Act), S.Pairwise (fun i j => dst i ≠ dst j) → a.tmps.size = a0.tmps.size → a.defers = a0.defers →
    (∀ t, (∀ i, i ∈ S → t ≠ dst i) → a.tmps[t]? = a0.tmps[t]?) → (∀ i, i ∈ S → a.tmps[dst i]? = some (v i)) → a = putsL a0 S dst v
  | [], a0, a, _, h1, h2, h3, _ => by
    have : a.tmps = a0.tmps := Array.ext_getElem? fun t => h3 t (by simp)
    cases a; cases a0
    simp only at h2 this
    subst h2; subst this
    rfl
  | i :: S, a0, a, hd, h1, h2, h3, h4 => by
    show a = putsL (a0.put (some (dst i)) (v i)) S dst v
    rw [List.pairwise_cons] at hd
    refine act_eq S _ a hd.2 (h1.trans (by simp [Act.put])) h2 (fun t ht => ?_) fun j hj => h4 j (List.mem_cons_of_mem _ hj)
    show _ = (a0.tmps.setIfInBounds (dst i) (v i))[t]?
    rw [Array.getElem?_setIfInBounds]
    by_cases e : dst i = t
    · subst e
      have h5 := h4 i (by simp)
      have h6 : dst i < a.tmps.size := (Array.getElem?_eq_some_iff.1 h5).1
      rw [if_pos rfl, h5, if_pos (by omega)]
    · rw [if_neg e]
      refine h3 t fun j hj => ?_
      rcases List.mem_cons.1 hj with rfl | hj
      · exact fun h => e h.symm
      · exact ht j hj
theorem exec_make {P : Program} {o : Oper} {ev : Operand → Value} {w w' : World} {T : TypeId} {l c : Operand} {v : Value} (ho : o.op = .makeSlice T l c)
    (h : (Instr.makeSlice T (ev l) (ev c)).run P w = .ok v w') : (execOp ev o).run P w = .ok (.value v) w' := by
  unfold execOp
  simp only [ho]
  show Sem.run P (Instr.makeSlice T (ev l) (ev c) >>= fun x => pure (Next.value x)) w = _
  rw [Sem.run_bind, h]
  rfl
theorem exec_alloc {P : Program} {o : Oper} {ev : Operand → Value} {w w' : World} {T : TypeId} {v : Value} (ho : o.op = .alloc T)
    (h : (Instr.alloc T true (.tuple #[])).run P w = .ok v w') : (execOp ev o).run P w = .ok (.value v) w' := by
  unfold execOp
  simp only [ho]
  show Sem.run P (Instr.alloc T true (.tuple #[]) >>= fun x => pure (Next.value x)) w = _
  rw [Sem.run_bind, h]
  rfl
theorem wp_exec {P : Program} {o : Oper} {a : Act} {w w' : World} {K : Act → World → Prop} {Q : Exit → Act → World → Prop} {v : Value}
    (h : (execOp a.eval o).run P w = .ok (.value v) w') (hK : K (a.put o.dst v) w') : o.wp P a w K Q := by
  unfold Oper.wp
  rw [h]
  exact hK
/-- What each operation is: it lays one new block, and its value tells where. -/
structure MakeOp (P : Program) (ops : Array Oper) (a0 : Act) (S : List Nat) (dst : Nat → Nat) (val : Nat → Nat → Value) (obj : Nat → Obj) (i : Nat) : Prop where
  op : ∃ o : Oper, ops[i]? = some o ∧ o.dst = some (dst i) ∧ o.guard = none ∧
    ∀ (ev : Operand → Value) (W : World), (∀ t v, a0.tmps[t]? = some v → (∀ j, j ∈ S → t ≠ dst j) → ev (.tmp t) = v) → (execOp ev o).run P W = .ok (.value (val i W.heap.size)) (W.alloc (obj i))
theorem MakeOp.make {P : Program} {ops : Array Oper} {a0 : Act} {S : List Nat} {dst : Nat → Nat} {val : Nat → Nat → Value} {obj : Nat → Obj} {i : Nat} (o : Oper) (T : TypeId) (t s : Nat) (h1 : ops[i]? = some o) (h2 : o.op = .makeSlice T (.tmp t) (.tmp t)) (h3 : o.dst = some (dst i)) (h4 : o.guard = none)
    (h5 : a0.tmps[t]? = some (.int .i64 s)) (h6 : ∀ j, j ∈ S → t ≠ dst j) (h7 : ∀ W, (Instr.makeSlice T (.int .i64 (s : Int)) (.int .i64 (s : Int))).run P W = .ok (val i W.heap.size) (W.alloc (obj i))) : MakeOp P ops a0 S dst val obj i :=
  ⟨o, h1, h3, h4, fun ev W he => exec_make h2 (by rw [he t _ h5 h6]; exact h7 W)⟩
theorem MakeOp.alloc {P : Program} {ops : Array Oper} {a0 : Act} {S : List Nat} {dst : Nat → Nat} {val : Nat → Nat → Value} {obj : Nat → Obj} {i : Nat} (o : Oper) (T : TypeId) (h1 : ops[i]? = some o) (h2 : o.op = .alloc T) (h3 : o.dst = some (dst i)) (h4 : o.guard = none)
    (h7 : ∀ W, (Instr.alloc T true (.tuple #[])).run P W = .ok (val i W.heap.size) (W.alloc (obj i))) : MakeOp P ops a0 S dst val obj i :=
  ⟨o, h1, h3, h4, fun ev W _ => exec_alloc h2 (h7 W)⟩
/-- The blocks that are laid. -/
structure MadeAll (w0 : World) (obj : Nat → Obj) (D : List Nat) (ad : Nat → Nat) (w : World) : Prop where
  row : ∀ i, i ∈ D → w.heap[ad i]? = some (obj i) ∧ w0.heap.size ≤ ad i
  apart : ∀ i j, i ∈ D → j ∈ D → i ≠ j → ad i ≠ ad j
  only : Only [] w0 w
theorem filter_len (D S : List Nat) (hn : D.Nodup) (hS : S.Nodup) (hs : ∀ i, i ∈ D → i ∈ S) : (S.filter fun i => D.contains i).length = D.length := by
  refine Nat.le_antisymm (len_sub _ _ (hS.filter _) fun i hi => by simpa using (List.mem_filter.1 hi).2) (len_sub _ _ hn fun i hi => List.mem_filter.2 ⟨hs i hi, by simpa using hi⟩)
theorem makes_law {P : Program} {md : Region.Mode} {ops : Array Oper} {Q : Exit → Act → World → Prop} {fuel F : Nat} {listed : Array Bool} {a0 : Act} {w0 : World} (S : List Nat) (dst : Nat → Nat) (val : Nat → Nat → Value) (obj : Nat → Obj) (full : List Nat → Bool)
    (hF : F = fuel + S.length) (hS : S.Nodup) (hd' : ∀ i j, i ∈ S → j ∈ S → i ≠ j → dst i ≠ dst j) (hb : ∀ i, i ∈ S → dst i < a0.tmps.size) (hop : ∀ i, i ∈ S → MakeOp P ops a0 S dst val obj i)
    (hfull : full S = true) (hready : ((subs S).all fun D => full D || decide (Region.ready md ops (mkL listed D) = S.filter fun i => !D.contains i)) = true)
    (fin : ∀ D w ad r, full D = true → D.length + r = S.length → MadeAll w0 obj D ad w → wpAny P md ops Q (fuel + r) (mkL listed D) (putsL a0 D dst fun i => val i (ad i)) w) :
    wpAny P md ops Q F listed a0 w0 := by
  have hd : S.Pairwise (fun i j => dst i ≠ dst j) := List.Pairwise.imp_of_mem (fun ha hb h => hd' _ _ ha hb h) hS
  have key : ∀ (r : Nat) (D : List Nat) (a : Act) (w : World) (ad : Nat → Nat), (∀ i, i ∈ D → i ∈ S) → D.Nodup → D.length + r = S.length →
      a.tmps.size = a0.tmps.size → a.defers = a0.defers → (∀ t, (∀ i, i ∈ D → t ≠ dst i) → a.tmps[t]? = a0.tmps[t]?) → (∀ i, i ∈ D → a.tmps[dst i]? = some (val i (ad i))) →
      MadeAll w0 obj D ad w → wpAny P md ops Q (fuel + r) (mkL listed D) a w := by
    intro r
    induction r with
    | zero =>
      intro D a w ad hDS hDn hlen h1 h2 h3 h4 hM
      have hSD : ∀ i, i ∈ S → i ∈ D := sub_all hDn hDS (by omega)
      have hiff : ∀ i, i ∈ D ↔ i ∈ S := fun i => ⟨hDS i, hSD i⟩
      rw [mkL_congr listed hiff]
      have hf := fin S w ad 0 hfull (by omega) ⟨fun i hi => hM.row i (hSD i hi), fun i j hi hj => hM.apart i j (hSD i hi) (hSD j hj), hM.only⟩
      rw [← act_eq S a0 a hd h1 h2 (fun t ht => h3 t fun i hi => ht i (hDS i hi)) fun i hi => h4 i (hSD i hi)] at hf
      exact hf
    | succ r ih =>
      intro D a w ad hDS hDn hlen h1 h2 h3 h4 hM
      have hiff : ∀ i, i ∈ D ↔ i ∈ S.filter fun i => D.contains i := fun i => ⟨fun hi => List.mem_filter.2 ⟨hDS i hi, by simpa using hi⟩, fun hi => by simpa using (List.mem_filter.1 hi).2⟩
      have hm : S.filter (fun i => D.contains i) ∈ subs S := subs_filter _ S
      have hall := (List.all_eq_true.1 hready) _ hm
      have hfl := filter_len D S hDn hS hDS
      by_cases hfu : full (S.filter fun i => D.contains i) = true
      · have hf := fin _ w ad (r + 1) hfu (by omega) ⟨fun i hi => hM.row i ((hiff i).2 hi), fun i j hi hj => hM.apart i j ((hiff i).2 hi) ((hiff j).2 hj), hM.only⟩
        rw [← act_eq _ a0 a (hd.filter _) h1 h2 (fun t ht => h3 t fun i hi => ht i ((hiff i).1 hi)) fun i hi => h4 i ((hiff i).2 hi)] at hf
        rw [mkL_congr listed hiff]
        exact hf
      have hr : Region.ready md ops (mkL listed D) = S.filter fun i => !D.contains i := by
        rw [Bool.or_eq_true] at hall
        have hall := of_decide_eq_true (hall.resolve_left hfu)
        rw [mkL_congr listed hiff, hall]
        refine List.filter_congr fun i hi => ?_
        congr 1
        rw [Bool.eq_iff_iff]
        simp [hi]
      have hne : (S.filter fun i => !D.contains i) ≠ [] := by
        intro h0
        have hSD : ∀ i, i ∈ S → i ∈ D := fun i hi => by
          have : i ∉ S.filter fun i => !D.contains i := by rw [h0]; simp
          rw [List.mem_filter] at this
          simp at this
          exact this hi
        have := len_sub S D hS hSD
        omega
      refine wpAny_ready hr hne fun i hi => ?_
      obtain ⟨hi1, hi2⟩ := List.mem_filter.1 hi
      have hiD : i ∉ D := by simpa using hi2
      obtain ⟨o, g1, g3, g4, g7⟩ := (hop i hi1).op
      unfold wpOp
      rw [g1]
      simp only
      rw [if_pos (by unfold Region.wanted; rw [g4])]
      have he : (execOp a.eval o).run P w = .ok (.value (val i w.heap.size)) (w.alloc (obj i)) := g7 _ _ fun t v hv ht => by
        show a.tmps.getD t undef = _
        rw [Array.getD_eq_getD_getElem?, h3 t fun j hj => ht j (hDS j hj), hv]
        rfl
      refine .inl (wp_exec he ?_)
      rw [mkL_set, g3]
      have hnew := heap_alloc_new w (obj i)
      have hlt : ∀ j, j ∈ D → ad j < w.heap.size := fun j hj => (Array.getElem?_eq_some_iff.1 (hM.row j hj).1).1
      refine ih (i :: D) _ _ (fun j => if j = i then w.heap.size else ad j) ?_ (List.nodup_cons.2 ⟨hiD, hDn⟩) (by simp; omega) (by simp [Act.put, h1]) h2 ?_ ?_ ⟨?_, ?_, hM.only.alloc _⟩
      · intro j hj
        rcases List.mem_cons.1 hj with rfl | hj
        · exact hi1
        · exact hDS j hj
      · intro t' ht'
        show (a.tmps.setIfInBounds (dst i) _)[t']? = _
        rw [Array.getElem?_setIfInBounds_ne (fun e => ht' i (by simp) e.symm)]
        exact h3 t' fun j hj => ht' j (List.mem_cons_of_mem _ hj)
      · intro j hj
        show (a.tmps.setIfInBounds (dst i) _)[dst j]? = _
        by_cases e : j = i
        · subst e
          rw [if_pos rfl, Array.getElem?_setIfInBounds_self_of_lt (by rw [h1]; exact hb j hi1)]
        · have hj' : j ∈ D := by simpa [e] using hj
          have hne2 : dst i ≠ dst j := hd' _ _ hi1 (hDS j hj') fun h => e h.symm
          rw [if_neg e, Array.getElem?_setIfInBounds_ne hne2]
          exact h4 j hj'
      · intro j hj
        by_cases e : j = i
        · subst e
          rw [if_pos rfl]
          exact ⟨hnew, hM.only.size⟩
        · have hj' : j ∈ D := by simpa [e] using hj
          rw [if_neg e]
          exact ⟨(heap_alloc_old _ _ (hlt j hj')).trans (hM.row j hj').1, (hM.row j hj').2⟩
      · intro j k hj hk hjk
        by_cases e : j = i
        · subst e
          have hk' : k ∈ D := by simpa [Ne.symm hjk] using hk
          rw [if_pos rfl, if_neg (Ne.symm hjk)]
          have := hlt k hk'
          omega
        · have hj' : j ∈ D := by simpa [e] using hj
          rw [if_neg e]
          by_cases e2 : k = i
          · rw [if_pos e2]
            have := hlt j hj'
            omega
          · have hk' : k ∈ D := by simpa [e2] using hk
            rw [if_neg e2]
            exact hM.apart j k hj' hk' hjk
  have := key S.length [] a0 w0 (fun _ => 0) (by simp) List.nodup_nil (by simp) rfl rfl (fun _ _ => rfl) (by simp) ⟨by simp, by simp, Only.refl _ _⟩
  rw [mkL_nil] at this
  rw [hF]
  exact this

end Go.Proofs.YtipgbbhgmoehfaaDoor

/-
  The forest's edges as merges (plain): labels, heights in order, thresholds, counts.
-/
namespace Go.Proofs.YtipgbbhgmoehfaaDoor
set_option linter.unusedSimpArgs false
set_option linter.unusedVariables false

theorem labK_pull (p q o : Nat → Nat) : ∀ j, labK (fun i => p (o i)) (fun i => q (o i)) id j = labK p q o j
  | 0 => rfl
  | j + 1 => by rw [labK_succ, labK_succ, labK_pull p q o j]; rfl
theorem sel_left {l l' : List Nat} {i : Nat} (h : i < l.length) : sel (l ++ l') i = sel l i := by
  unfold sel
  rw [List.getD_eq_getElem?_getD, List.getD_eq_getElem?_getD, List.getElem?_append_left h]
theorem sel_last {l : List Nat} {a : Nat} : sel (l ++ [a]) l.length = a := by
  unfold sel
  rw [List.getD_eq_getElem?_getD, List.getElem?_append_right (Nat.le_refl _), Nat.sub_self]
  rfl
theorem labK_eqs {p q o o' : Nat → Nat} : ∀ {k : Nat}, (∀ i, i < k → o i = o' i) → labK p q o k = labK p q o' k
  | 0, _ => rfl
  | k + 1, h => by rw [labK_succ, labK_succ, labK_eqs fun i hi => h i (by omega), h k (by omega)]
theorem fl_lab (p q o : Nat → Nat) : ∀ j, labK p q (sel (fl p q o j)) (fl p q o j).length = labK p q o j
  | 0 => rfl
  | j + 1 => by
    have ih := fl_lab p q o j
    rw [labK_succ]
    unfold fl
    split
    · rename_i h
      rw [ih, uni_same h]
    · rw [List.length_append]
      show labK p q _ ((fl p q o j).length + 1) = _
      rw [labK_succ, sel_last, labK_eqs (o' := sel (fl p q o j)) (fun i hi => sel_left hi), ih]
/-- What the forest's edges are. -/
structure Fst (p q o : Nat → Nat) (j : Nat) (l : List Nat) : Prop where
  mem : ∀ a, a ∈ l → ∃ t, t < j ∧ a = o t
  new : ∀ i, i < l.length → labK p q (sel l) i (p (sel l i)) ≠ labK p q (sel l) i (q (sel l i))
  ord : l.Pairwise fun a b => ∃ s t, s < t ∧ t < j ∧ a = o s ∧ b = o t
theorem fl_fst (p q o : Nat → Nat) : ∀ j, Fst p q o j (fl p q o j)
  | 0 => ⟨fun a h => (by cases h), fun i h => (by cases h), List.Pairwise.nil⟩
  | j + 1 => by
    have ih := fl_fst p q o j
    unfold fl
    split
    · exact ⟨fun a ha => by obtain ⟨t, ht, e⟩ := ih.mem a ha; exact ⟨t, by omega, e⟩, ih.new, ih.ord.imp fun ⟨s, t, h1, h2, h3, h4⟩ => ⟨s, t, h1, by omega, h3, h4⟩⟩
    · rename_i h
      refine ⟨fun a ha => ?_, fun i hi => ?_, ?_⟩
      · rcases List.mem_append.1 ha with ha | ha
        · obtain ⟨t, ht, e⟩ := ih.mem a ha; exact ⟨t, by omega, e⟩
        · exact ⟨j, by omega, List.mem_singleton.1 ha⟩
      · rw [List.length_append] at hi
        replace hi : i < (fl p q o j).length + 1 := hi
        rcases Nat.eq_or_lt_of_le (Nat.le_of_lt_succ hi) with e | e
        · replace e : i = (fl p q o j).length := e
          subst e
          rw [sel_last, labK_eqs (o' := sel (fl p q o j)) (fun i hi => sel_left hi), fl_lab]
          exact h
        · rw [sel_left e, labK_eqs (o' := sel (fl p q o j)) (fun k hk => sel_left (by omega))]
          exact ih.new i e
      · rw [List.pairwise_append]
        refine ⟨ih.ord.imp fun ⟨s, t, h1, h2, h3, h4⟩ => ⟨s, t, h1, by omega, h3, h4⟩, List.pairwise_singleton _ _, fun a ha b hb => ?_⟩
        obtain ⟨t, ht, e⟩ := ih.mem a ha
        exact ⟨t, j, ht, by omega, e, List.mem_singleton.1 hb⟩
theorem fl_mrg {p q o : Nat → Nat} {m n : Nat} (h : ∀ i, i < m → p (o i) < n ∧ q (o i) < n) : Mrg n (fun i => p (sel (fl p q o m) i)) (fun i => q (sel (fl p q o m) i)) (fl p q o m).length := by
  intro i hi
  obtain ⟨t, ht, e⟩ := (fl_fst p q o m).mem _ (sel_at hi)
  have hn := (fl_fst p q o m).new i hi
  refine ⟨by dsimp only; rw [e]; exact (h t ht).1, by dsimp only; rw [e]; exact (h t ht).2, ?_⟩
  unfold tlab
  rw [labK_pull]
  exact hn
theorem fl_prefix (p q o : Nat → Nat) (k : Nat) : ∀ d, ∃ r, fl p q o (k + d) = fl p q o k ++ r ∧ ∀ a, a ∈ r → ∃ t, k ≤ t ∧ t < k + d ∧ a = o t
  | 0 => ⟨[], by simp, fun a h => by cases h⟩
  | d + 1 => by
    obtain ⟨r, h1, h2⟩ := fl_prefix p q o k d
    rw [← Nat.add_assoc, show fl p q o (k + d + 1) = if labK p q o (k + d) (p (o (k + d))) = labK p q o (k + d) (q (o (k + d))) then fl p q o (k + d) else fl p q o (k + d) ++ [o (k + d)] from rfl]
    split
    · exact ⟨r, h1, fun a ha => by obtain ⟨t, g1, g2, g3⟩ := h2 a ha; exact ⟨t, g1, by omega, g3⟩⟩
    · refine ⟨r ++ [o (k + d)], by rw [h1, List.append_assoc], fun a ha => ?_⟩
      rcases List.mem_append.1 ha with ha | ha
      · obtain ⟨t, g1, g2, g3⟩ := h2 a ha; exact ⟨t, g1, by omega, g3⟩
      · exact ⟨k + d, by omega, by omega, List.mem_singleton.1 ha⟩
theorem front_is {m : Nat} {x : Nat → Int} {o : Nat → Nat} (hb : ByWeight m x o) (th : Int) : ∃ k, k ≤ m ∧ (∀ i, i < k → x (o i) ≤ th) ∧ ∀ i, k ≤ i → i < m → th < x (o i) := by
  have key : ∀ d, d ≤ m → (∃ k, k ≤ d ∧ (∀ i, i < k → x (o i) ≤ th) ∧ ∀ i, k ≤ i → i < d → th < x (o i)) := by
    intro d
    induction d with
    | zero => exact fun _ => ⟨0, by omega, fun i h => by omega, fun i h1 h2 => by omega⟩
    | succ d ih =>
      intro hd
      obtain ⟨k, h1, h2, h3⟩ := ih (by omega)
      by_cases hx : x (o d) ≤ th
      · refine ⟨d + 1, by omega, fun i hi => ?_, fun i g1 g2 => by omega⟩
        have := hb.le (show i ≤ d by omega) (by omega)
        omega
      · refine ⟨k, by omega, h2, fun i g1 g2 => ?_⟩
        by_cases e : i = d
        · subst e; omega
        · exact h3 i g1 (by omega)
  exact key m (Nat.le_refl _)
/-- Up to a threshold: so many merges, and the labels of the graph up to there. -/
theorem fl_theta {p q o : Nat → Nat} {m : Nat} {x : Nat → Int} (hb : ByWeight m x o) (th : Int) : ∃ k, k ≤ (fl p q o m).length ∧ (∀ i, i < k → x (sel (fl p q o m) i) ≤ th) ∧ (∀ i, k ≤ i → i < (fl p q o m).length → th < x (sel (fl p q o m) i)) ∧
    tlab (fun i => p (sel (fl p q o m) i)) (fun i => q (sel (fl p q o m) i)) k = labLe p q m x th := by
  obtain ⟨k, hk, h1, h2⟩ := front_is hb th
  obtain ⟨r, e, hr⟩ := fl_prefix p q o k (m - k)
  rw [show k + (m - k) = m by omega] at e hr
  refine ⟨(fl p q o k).length, by rw [e, List.length_append]; omega, fun i hi => ?_, fun i g1 g2 => ?_, ?_⟩
  · rw [e, sel_left hi]
    obtain ⟨t, ht, e2⟩ := (fl_fst p q o k).mem _ (sel_at hi)
    rw [e2]; exact h1 t ht
  · have hm : sel (fl p q o m) i ∈ r := by
      rw [e, List.length_append] at g2
      unfold sel
      rw [e, List.getD_eq_getElem?_getD, List.getElem?_append_right g1, List.getElem?_eq_getElem (by omega)]
      exact List.getElem_mem _
    obtain ⟨t, g3, g4, e2⟩ := hr _ hm
    rw [e2]; exact h2 t g3 g4
  · unfold tlab
    rw [labK_pull, ← labK_front hb hk h1 h2, ← fl_lab p q o k]
    refine labK_eqs fun i hi => ?_
    rw [e, sel_left hi]
theorem fl_sorted {p q o : Nat → Nat} {m : Nat} {x : Nat → Int} (hb : ByWeight m x o) {i j : Nat} (hij : i ≤ j) (hj : j < (fl p q o m).length) : x (sel (fl p q o m) i) ≤ x (sel (fl p q o m) j) := by
  rcases Nat.eq_or_lt_of_le hij with e | hij
  · rw [e]; exact Int.le_refl _
  have h := (List.pairwise_iff_getElem.1 (fl_fst p q o m).ord) i j (by omega) hj hij
  have e1 : sel (fl p q o m) i = (fl p q o m)[i] := by
    unfold sel
    rw [List.getD_eq_getElem?_getD, List.getElem?_eq_getElem (by omega)]
    rfl
  have e2 : sel (fl p q o m) j = (fl p q o m)[j] := by
    unfold sel
    rw [List.getD_eq_getElem?_getD, List.getElem?_eq_getElem hj]
    rfl
  obtain ⟨s, t, h1, h2, h3, h4⟩ := h
  rw [e1, e2, h3, h4]
  exact hb.le (by omega) h2
/-- Each merge takes one set away. -/
theorem Mrg.roots {n c : Nat} {p q : Nat → Nat} (h : Mrg n p q c) : ∀ {i}, i ≤ c → Go.Proofs.YtipgbbhgmoehfaaDoor.roots n (tlab p q i) + i = n
  | 0, _ => roots_id n
  | i + 1, hi => by
    have ih := Mrg.roots h (i := i) (by omega)
    obtain ⟨h1, h2, h3⟩ := h i (by omega)
    have := roots_uni (h.labs (i := i) (by omega)) (p := (p i, q i)) h1 h2 h3
    rw [show uni (tlab p q i) (p i, q i) = tlab p q (i + 1) from (tlab_mer p q i).symm] at this
    omega
theorem Mrg.count_le {n c : Nat} {p q : Nat → Nat} (h : Mrg n p q c) : c ≤ n := by
  have := h.roots (Nat.le_refl c)
  omega

end Go.Proofs.YtipgbbhgmoehfaaDoor
