import Derived.RegionTactic
import Derived.Test.YtipgbbhgmoehfaaYF
/-
  A drawn region that makes several rows of one length: one law for all orders.
-/
namespace Go.Proofs.Ytipgbbhgmoehfaa
open Go.RowKit
set_option linter.unusedSimpArgs false
set_option linter.unusedVariables false

/-- The operations of D are done, besides those that were. -/
def mkL (listed : Array Bool) (D : List Nat) : Array Bool := listed.mapIdx fun j b => b || D.contains j
theorem mkL_nil (listed : Array Bool) : mkL listed [] = listed := by
  unfold mkL
  apply Array.ext_getElem?
  intro i
  simp
theorem mkL_set (listed : Array Bool) (D : List Nat) (i : Nat) : (mkL listed D).setIfInBounds i true = mkL listed (i :: D) := by
  unfold mkL
  apply Array.ext_getElem?
  intro j
  rw [Array.getElem?_setIfInBounds]
  by_cases e : i = j
  · subst e
    by_cases hs : i < listed.size
    · simp [hs]
    · simp [hs]
  · rw [if_neg e]
    have e2 : (j == i) = false := by simpa using fun h : j = i => e h.symm
    have e3 : ¬ j = i := fun h => e h.symm
    simp [e2, e3]
theorem mkL_congr (listed : Array Bool) {D D' : List Nat} (h : ∀ i, i ∈ D ↔ i ∈ D') : mkL listed D = mkL listed D' := by
  unfold mkL
  congr 1
  funext j b
  congr 1
  rw [Bool.eq_iff_iff]
  simp [h]
def subs : List Nat → List (List Nat)
  | [] => [[]]
  | x :: l => subs l ++ (subs l).map (x :: ·)
theorem subs_filter (p : Nat → Bool) : ∀ l : List Nat, l.filter p ∈ subs l
  | [] => by simp [subs]
  | x :: l => by
    have := subs_filter p l
    unfold subs
    cases h : p x with
    | false => rw [List.filter_cons_of_neg (by simp [h])]; exact List.mem_append.2 (.inl this)
    | true => rw [List.filter_cons_of_pos h]; exact List.mem_append.2 (.inr (List.mem_map.2 ⟨_, this, rfl⟩))
theorem len_sub : ∀ (D S : List Nat), D.Nodup → (∀ i, i ∈ D → i ∈ S) → D.length ≤ S.length
  | [], _, _, _ => Nat.zero_le _
  | x :: D, S, hn, hs => by
    rw [List.nodup_cons] at hn
    have hx := hs x (by simp)
    have h1 := len_sub D (S.erase x) hn.2 fun i hi => (List.mem_erase_of_ne (fun e => hn.1 (by rw [← e]; exact hi))).2 (hs i (by simp [hi]))
    rw [List.length_erase_of_mem hx] at h1
    have := List.length_pos_of_mem hx
    simp only [List.length_cons]
    omega
theorem sub_all {D S : List Nat} (hn : D.Nodup) (hs : ∀ i, i ∈ D → i ∈ S) (hl : S.length ≤ D.length) : ∀ i, i ∈ S → i ∈ D := fun i hi => by
  by_cases h : i ∈ D
  · exact h
  · have := len_sub (i :: D) S (List.nodup_cons.2 ⟨h, hn⟩) fun j hj => by
      rcases List.mem_cons.1 hj with rfl | hj
      · exact hi
      · exact hs j hj
    simp only [List.length_cons] at this
    omega
/-- The rows are put into their slots. -/
def putsL (a : Act) (S : List Nat) (dst : Nat → Nat) (v : Nat → Value) : Act := S.foldl (fun a i => a.put (some (dst i)) (v i)) a
theorem act_eq {dst : Nat → Nat} {v : Nat → Value} : ∀ (S : List Nat) (a0 a : Act), S.Pairwise (fun i j => dst i ≠ dst j) → a.tmps.size = a0.tmps.size → a.defers = a0.defers →
    (∀ t, (∀ i, i ∈ S → t ≠ dst i) → a.tmps[t]? = a0.tmps[t]?) → (∀ i, i ∈ S → a.tmps[dst i]? = some (v i)) → a = putsL a0 S dst v
  | [], a0, a, _, h1, h2, h3, _ => by
    have : a.tmps = a0.tmps := Array.ext_getElem? fun t => h3 t (by simp)
    cases a; cases a0
    simp only at h2 this
    subst h2; subst this
    rfl
  | i :: S, a0, a, hd, h1, h2, h3, h4 => by
    show a = putsL (a0.put (some (dst i)) (v i)) S dst v
    rw [List.pairwise_cons] at hd
    refine act_eq S _ a hd.2 (h1.trans (by simp [Act.put])) h2 (fun t ht => ?_) fun j hj => h4 j (List.mem_cons_of_mem _ hj)
    show _ = (a0.tmps.setIfInBounds (dst i) (v i))[t]?
    rw [Array.getElem?_setIfInBounds]
    by_cases e : dst i = t
    · subst e
      have h5 := h4 i (by simp)
      have h6 : dst i < a.tmps.size := (Array.getElem?_eq_some_iff.1 h5).1
      rw [if_pos rfl, h5, if_pos (by omega)]
    · rw [if_neg e]
      refine h3 t fun j hj => ?_
      rcases List.mem_cons.1 hj with rfl | hj
      · exact fun h => e h.symm
      · exact ht j hj
theorem exec_make {P : Program} {o : Oper} {ev : Operand → Value} {w w' : World} {T : TypeId} {l c : Operand} {v : Value} (ho : o.op = .makeSlice T l c)
    (h : (Instr.makeSlice T (ev l) (ev c)).run P w = .ok v w') : (execOp ev o).run P w = .ok (.value v) w' := by
  unfold execOp
  simp only [ho]
  show Sem.run P (Instr.makeSlice T (ev l) (ev c) >>= fun x => pure (Next.value x)) w = _
  rw [Sem.run_bind, h]
  rfl
theorem exec_alloc {P : Program} {o : Oper} {ev : Operand → Value} {w w' : World} {T : TypeId} {v : Value} (ho : o.op = .alloc T)
    (h : (Instr.alloc T true (.tuple #[])).run P w = .ok v w') : (execOp ev o).run P w = .ok (.value v) w' := by
  unfold execOp
  simp only [ho]
  show Sem.run P (Instr.alloc T true (.tuple #[]) >>= fun x => pure (Next.value x)) w = _
  rw [Sem.run_bind, h]
  rfl
theorem wp_exec {P : Program} {o : Oper} {a : Act} {w w' : World} {K : Act → World → Prop} {Q : Exit → Act → World → Prop} {v : Value}
    (h : (execOp a.eval o).run P w = .ok (.value v) w') (hK : K (a.put o.dst v) w') : o.wp P a w K Q := by
  unfold Oper.wp
  rw [h]
  exact hK
/-- What each operation is: it lays one new block, and its value tells where. -/
structure MakeOp (P : Program) (ops : Array Oper) (a0 : Act) (S : List Nat) (dst : Nat → Nat) (val : Nat → Nat → Value) (obj : Nat → Obj) (i : Nat) : Prop where
  op : ∃ o : Oper, ops[i]? = some o ∧ o.dst = some (dst i) ∧ o.guard = none ∧
    ∀ (ev : Operand → Value) (W : World), (∀ t v, a0.tmps[t]? = some v → (∀ j, j ∈ S → t ≠ dst j) → ev (.tmp t) = v) → (execOp ev o).run P W = .ok (.value (val i W.heap.size)) (W.alloc (obj i))
theorem MakeOp.make {P : Program} {ops : Array Oper} {a0 : Act} {S : List Nat} {dst : Nat → Nat} {val : Nat → Nat → Value} {obj : Nat → Obj} {i : Nat} (o : Oper) (T : TypeId) (t s : Nat) (h1 : ops[i]? = some o) (h2 : o.op = .makeSlice T (.tmp t) (.tmp t)) (h3 : o.dst = some (dst i)) (h4 : o.guard = none)
    (h5 : a0.tmps[t]? = some (.int .i64 s)) (h6 : ∀ j, j ∈ S → t ≠ dst j) (h7 : ∀ W, (Instr.makeSlice T (.int .i64 (s : Int)) (.int .i64 (s : Int))).run P W = .ok (val i W.heap.size) (W.alloc (obj i))) : MakeOp P ops a0 S dst val obj i :=
  ⟨o, h1, h3, h4, fun ev W he => exec_make h2 (by rw [he t _ h5 h6]; exact h7 W)⟩
theorem MakeOp.alloc {P : Program} {ops : Array Oper} {a0 : Act} {S : List Nat} {dst : Nat → Nat} {val : Nat → Nat → Value} {obj : Nat → Obj} {i : Nat} (o : Oper) (T : TypeId) (h1 : ops[i]? = some o) (h2 : o.op = .alloc T) (h3 : o.dst = some (dst i)) (h4 : o.guard = none)
    (h7 : ∀ W, (Instr.alloc T true (.tuple #[])).run P W = .ok (val i W.heap.size) (W.alloc (obj i))) : MakeOp P ops a0 S dst val obj i :=
  ⟨o, h1, h3, h4, fun ev W _ => exec_alloc h2 (h7 W)⟩
/-- The blocks that are laid. -/
structure MadeAll (w0 : World) (obj : Nat → Obj) (D : List Nat) (ad : Nat → Nat) (w : World) : Prop where
  row : ∀ i, i ∈ D → w.heap[ad i]? = some (obj i) ∧ w0.heap.size ≤ ad i
  apart : ∀ i j, i ∈ D → j ∈ D → i ≠ j → ad i ≠ ad j
  only : Only [] w0 w
theorem filter_len (D S : List Nat) (hn : D.Nodup) (hS : S.Nodup) (hs : ∀ i, i ∈ D → i ∈ S) : (S.filter fun i => D.contains i).length = D.length := by
  refine Nat.le_antisymm (len_sub _ _ (hS.filter _) fun i hi => by simpa using (List.mem_filter.1 hi).2) (len_sub _ _ hn fun i hi => List.mem_filter.2 ⟨hs i hi, by simpa using hi⟩)
theorem makes_law {P : Program} {md : Region.Mode} {ops : Array Oper} {Q : Exit → Act → World → Prop} {fuel F : Nat} {listed : Array Bool} {a0 : Act} {w0 : World} (S : List Nat) (dst : Nat → Nat) (val : Nat → Nat → Value) (obj : Nat → Obj) (full : List Nat → Bool)
    (hF : F = fuel + S.length) (hS : S.Nodup) (hd' : ∀ i j, i ∈ S → j ∈ S → i ≠ j → dst i ≠ dst j) (hb : ∀ i, i ∈ S → dst i < a0.tmps.size) (hop : ∀ i, i ∈ S → MakeOp P ops a0 S dst val obj i)
    (hfull : full S = true) (hready : ((subs S).all fun D => full D || decide (Region.ready md ops (mkL listed D) = S.filter fun i => !D.contains i)) = true)
    (fin : ∀ D w ad r, full D = true → D.length + r = S.length → MadeAll w0 obj D ad w → wpAny P md ops Q (fuel + r) (mkL listed D) (putsL a0 D dst fun i => val i (ad i)) w) :
    wpAny P md ops Q F listed a0 w0 := by
  have hd : S.Pairwise (fun i j => dst i ≠ dst j) := List.Pairwise.imp_of_mem (fun ha hb h => hd' _ _ ha hb h) hS
  have key : ∀ (r : Nat) (D : List Nat) (a : Act) (w : World) (ad : Nat → Nat), (∀ i, i ∈ D → i ∈ S) → D.Nodup → D.length + r = S.length →
      a.tmps.size = a0.tmps.size → a.defers = a0.defers → (∀ t, (∀ i, i ∈ D → t ≠ dst i) → a.tmps[t]? = a0.tmps[t]?) → (∀ i, i ∈ D → a.tmps[dst i]? = some (val i (ad i))) →
      MadeAll w0 obj D ad w → wpAny P md ops Q (fuel + r) (mkL listed D) a w := by
    intro r
    induction r with
    | zero =>
      intro D a w ad hDS hDn hlen h1 h2 h3 h4 hM
      have hSD : ∀ i, i ∈ S → i ∈ D := sub_all hDn hDS (by omega)
      have hiff : ∀ i, i ∈ D ↔ i ∈ S := fun i => ⟨hDS i, hSD i⟩
      rw [mkL_congr listed hiff]
      have hf := fin S w ad 0 hfull (by omega) ⟨fun i hi => hM.row i (hSD i hi), fun i j hi hj => hM.apart i j (hSD i hi) (hSD j hj), hM.only⟩
      rw [← act_eq S a0 a hd h1 h2 (fun t ht => h3 t fun i hi => ht i (hDS i hi)) fun i hi => h4 i (hSD i hi)] at hf
      exact hf
    | succ r ih =>
      intro D a w ad hDS hDn hlen h1 h2 h3 h4 hM
      have hiff : ∀ i, i ∈ D ↔ i ∈ S.filter fun i => D.contains i := fun i => ⟨fun hi => List.mem_filter.2 ⟨hDS i hi, by simpa using hi⟩, fun hi => by simpa using (List.mem_filter.1 hi).2⟩
      have hm : S.filter (fun i => D.contains i) ∈ subs S := subs_filter _ S
      have hall := (List.all_eq_true.1 hready) _ hm
      have hfl := filter_len D S hDn hS hDS
      by_cases hfu : full (S.filter fun i => D.contains i) = true
      · have hf := fin _ w ad (r + 1) hfu (by omega) ⟨fun i hi => hM.row i ((hiff i).2 hi), fun i j hi hj => hM.apart i j ((hiff i).2 hi) ((hiff j).2 hj), hM.only⟩
        rw [← act_eq _ a0 a (hd.filter _) h1 h2 (fun t ht => h3 t fun i hi => ht i ((hiff i).1 hi)) fun i hi => h4 i ((hiff i).2 hi)] at hf
        rw [mkL_congr listed hiff]
        exact hf
      have hr : Region.ready md ops (mkL listed D) = S.filter fun i => !D.contains i := by
        rw [Bool.or_eq_true] at hall
        have hall := of_decide_eq_true (hall.resolve_left hfu)
        rw [mkL_congr listed hiff, hall]
        refine List.filter_congr fun i hi => ?_
        congr 1
        rw [Bool.eq_iff_iff]
        simp [hi]
      have hne : (S.filter fun i => !D.contains i) ≠ [] := by
        intro h0
        have hSD : ∀ i, i ∈ S → i ∈ D := fun i hi => by
          have : i ∉ S.filter fun i => !D.contains i := by rw [h0]; simp
          rw [List.mem_filter] at this
          simp at this
          exact this hi
        have := len_sub S D hS hSD
        omega
      refine wpAny_ready hr hne fun i hi => ?_
      obtain ⟨hi1, hi2⟩ := List.mem_filter.1 hi
      have hiD : i ∉ D := by simpa using hi2
      obtain ⟨o, g1, g3, g4, g7⟩ := (hop i hi1).op
      unfold wpOp
      rw [g1]
      simp only
      rw [if_pos (by unfold Region.wanted; rw [g4])]
      have he : (execOp a.eval o).run P w = .ok (.value (val i w.heap.size)) (w.alloc (obj i)) := g7 _ _ fun t v hv ht => by
        show a.tmps.getD t undef = _
        rw [Array.getD_eq_getD_getElem?, h3 t fun j hj => ht j (hDS j hj), hv]
        rfl
      refine .inl (wp_exec he ?_)
      rw [mkL_set, g3]
      have hnew := heap_alloc_new w (obj i)
      have hlt : ∀ j, j ∈ D → ad j < w.heap.size := fun j hj => (Array.getElem?_eq_some_iff.1 (hM.row j hj).1).1
      refine ih (i :: D) _ _ (fun j => if j = i then w.heap.size else ad j) ?_ (List.nodup_cons.2 ⟨hiD, hDn⟩) (by simp; omega) (by simp [Act.put, h1]) h2 ?_ ?_ ⟨?_, ?_, hM.only.alloc _⟩
      · intro j hj
        rcases List.mem_cons.1 hj with rfl | hj
        · exact hi1
        · exact hDS j hj
      · intro t' ht'
        show (a.tmps.setIfInBounds (dst i) _)[t']? = _
        rw [Array.getElem?_setIfInBounds_ne (fun e => ht' i (by simp) e.symm)]
        exact h3 t' fun j hj => ht' j (List.mem_cons_of_mem _ hj)
      · intro j hj
        show (a.tmps.setIfInBounds (dst i) _)[dst j]? = _
        by_cases e : j = i
        · subst e
          rw [if_pos rfl, Array.getElem?_setIfInBounds_self_of_lt (by rw [h1]; exact hb j hi1)]
        · have hj' : j ∈ D := by simpa [e] using hj
          have hne2 : dst i ≠ dst j := hd' _ _ hi1 (hDS j hj') fun h => e h.symm
          rw [if_neg e, Array.getElem?_setIfInBounds_ne hne2]
          exact h4 j hj'
      · intro j hj
        by_cases e : j = i
        · subst e
          rw [if_pos rfl]
          exact ⟨hnew, hM.only.size⟩
        · have hj' : j ∈ D := by simpa [e] using hj
          rw [if_neg e]
          exact ⟨(heap_alloc_old _ _ (hlt j hj')).trans (hM.row j hj').1, (hM.row j hj').2⟩
      · intro j k hj hk hjk
        by_cases e : j = i
        · subst e
          have hk' : k ∈ D := by simpa [Ne.symm hjk] using hk
          rw [if_pos rfl, if_neg (Ne.symm hjk)]
          have := hlt k hk'
          omega
        · have hj' : j ∈ D := by simpa [e] using hj
          rw [if_neg e]
          by_cases e2 : k = i
          · rw [if_pos e2]
            have := hlt j hj'
            omega
          · have hk' : k ∈ D := by simpa [e2] using hk
            rw [if_neg e2]
            exact hM.apart j k hj' hk' hjk
  have := key S.length [] a0 w0 (fun _ => 0) (by simp) List.nodup_nil (by simp) rfl rfl (fun _ _ => rfl) (by simp) ⟨by simp, by simp, Only.refl _ _⟩
  rw [mkL_nil] at this
  rw [hF]
  exact this

end Go.Proofs.Ytipgbbhgmoehfaa
