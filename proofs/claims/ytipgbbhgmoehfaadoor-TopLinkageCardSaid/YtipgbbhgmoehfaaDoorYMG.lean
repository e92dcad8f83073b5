import Derived.Maps.OwnRows
import Derived.Test.YtipgbbhgmoehfaaDoorYMM
import Derived.Test.YtipgbbhgmoehfaaDoorYDM
/-
  A map of rows of arms that the call itself has made: what an append under a key needs.
-/
namespace Go.Proofs.YtipgbbhgmoehfaaDoor
open Go.RowKit Go.Shelf Go.ChangeMaps Go.MapKept Go.ChangeShapes
open Go.WideElems (rd_val rd_key rg_of)
open Go.Maps (Keyed)
set_option linter.unusedSimpArgs false
set_option linter.unusedVariables false
set_option linter.unusedSectionVars false

theorem infoArm : (Tryd.prog.info? 61).map (fun i => (i.zero, i.size, i.bytes)) = some (some (.agg #[.int .i64 0, .int .i64 0]), 2, 16) := by kernel_rfl
/-- Whether a value owns a row of arms. -/
def Arms (w : World) (base n : Nat) (v : Value) : Prop := ∃ m xs, m ≤ n ∧ w.ownsRow base 61 2 v m xs
open Classical in
noncomputable def armR (base n : Nat) (w : World) (v : Value) : Option (DataW Unit × List MemPlace) := if Arms w base n v then some (.nil, []) else none
theorem armR_mk {base n : Nat} {w : World} {v : Value} (h : Arms w base n v) : armR base n w v = some (.nil, []) := by
  unfold armR; rw [if_pos h]
theorem armR_inv {base n : Nat} {w : World} {v : Value} {z : DataW Unit × List MemPlace} (h : armR base n w v = some z) : Arms w base n v ∧ z = (.nil, []) := by
  unfold armR at h
  split at h
  · rename_i h2; exact ⟨h2, by cases h; rfl⟩
  · cases h
theorem armK : Keyed Tryd.prog 3 := Maps.int_keyed Tryd.underlying3
/-- Block b is a map of at most n entries; each value owns a row of its own, from block base on. -/
def AGrp (w : World) (base b n : Nat) : Prop :=
  ∃ es clock, w.heap[b]? = some (.map es clock) ∧ Go.WideElems.Fit Tryd.prog 3 (armR base n w) es clock ∧ es.size ≤ n ∧ b < base ∧ ∀ x ∈ es.toList, ∀ y ∈ es.toList, x.key ≠ y.key → x.val.ownBlock = none ∨ x.val.ownBlock ≠ y.val.ownBlock
theorem AGrp.made (w : World) : AGrp (w.alloc (.map #[] 0)) (w.heap.size + 1) w.heap.size 0 :=
  ⟨#[], 0, (MapKept.heap_alloc w _).1, ⟨by simp, stamped_empty 0, by simp⟩, Nat.le_refl _, Nat.lt_succ_self _, by simp⟩
theorem AGrp.empty {W : World} {base b : Nat} (h : W.heap[b]? = some (.map #[] 0)) (hb : b < base) : AGrp W base b 0 :=
  ⟨#[], 0, h, ⟨by simp, stamped_empty 0, by simp⟩, Nat.le_refl _, hb, by simp⟩
theorem Arms.kept {w w' : World} {base n : Nat} {v : Value} {row : Option Nat} (h : Arms w base n v) (hg : w.grownBy w' row) (hne : v.ownBlock = none ∨ v.ownBlock ≠ row) : Arms w' base n v := by
  obtain ⟨m, xs, h1, h2⟩ := h
  exact ⟨m, xs, h1, h2.kept hg hne⟩
theorem AGrp.lt {w : World} {base b n : Nat} (h : AGrp w base b n) : b < w.heap.size := by
  obtain ⟨es, clock, hb, _⟩ := h
  exact (Array.getElem?_eq_some_iff.1 hb).1
theorem AGrp.kept {w w' : World} {base b n : Nat} (h : AGrp w base b n) (hg : w.grownBy w' none) : AGrp w' base b n := by
  obtain ⟨es, clock, hb, F, hs, hbb, hap⟩ := h
  obtain ⟨F2, _, _⟩ := F.stay (R' := armR base n w') fun x _ z hz => by
    obtain ⟨ha, rfl⟩ := armR_inv hz
    exact armR_mk (ha.kept hg (by cases x.val.ownBlock <;> simp))
  exact ⟨es, clock, (hg.block b (Array.getElem?_eq_some_iff.1 hb).1 (by simp)).trans hb, F2, hs, hbb, hap⟩
/-- Whatever is done to v's row and to new blocks: the store at the key leaves such a map again. -/
def GBack (w : World) (base b n : Nat) (key : Int) (v : Value) : Prop :=
  ∀ (w1 : World) (v' : Value), w.grownBy w1 v.ownBlock → Arms w1 base (n + 1) v' → (v'.ownBlock = v.ownBlock ∨ ∃ g, v'.ownBlock = some g ∧ w.heap.size ≤ g) →
    ∃ w2, (Instr.mapUpdate 56 (.map (some b)) (.int .i64 key) v').run Tryd.prog w1 = .ok () w2 ∧ AGrp w2 base b (n + 1) ∧ w1.grownBy w2 (some b)
theorem Arms.more {w : World} {base n m : Nat} {v : Value} (h : Arms w base n v) (hn : n ≤ m) : Arms w base m v := by
  obtain ⟨k, xs, h1, h2⟩ := h
  exact ⟨k, xs, by omega, h2⟩
theorem Arms.off {w : World} {base n b : Nat} {v : Value} (h : Arms w base n v) (hb : b < base) : v.ownBlock = none ∨ v.ownBlock ≠ some b := by
  obtain ⟨m, xs, h1, h2⟩ := h
  cases hu : v.ownBlock with
  | none => exact .inl rfl
  | some g =>
    refine .inr fun e1 => ?_
    have := (h2.lt g hu).1
    cases e1
    omega
theorem grp_back {w : World} {base b n : Nat} {es : Array MapEntry} {clock : Nat} {key : Int} {v : Value} (hk : keyOf Tryd.prog 3 (.int .i64 key) = some (.int .i64 key)) (hb : w.heap[b]? = some (.map es clock)) (F : Go.WideElems.Fit Tryd.prog 3 (armR base n w) es clock)
    (hs : es.size ≤ n) (hn : n < maxLen) (hbb : b < base) (hap : ∀ x ∈ es.toList, ∀ y ∈ es.toList, x.key ≠ y.key → x.val.ownBlock = none ∨ x.val.ownBlock ≠ y.val.ownBlock)
    (hv : ∀ x ∈ es.toList, x.key ≠ .int .i64 key → x.val.ownBlock = none ∨ x.val.ownBlock ≠ v.ownBlock) (hvb : v.ownBlock ≠ some b) : GBack w base b n key v := by
  intro w1 v' hg hown' hloc
  have hblt : b < w.heap.size := (Array.getElem?_eq_some_iff.1 hb).1
  have hb1 : w1.heap[b]? = some (.map es clock) := (hg.block b hblt (fun e1 => hvb e1.symm)).trans hb
  have owned : ∀ x ∈ es.toList, Arms w base n x.val := fun x hx => by
    obtain ⟨y, hy⟩ := F.reads x hx
    obtain ⟨z, hz, _⟩ := rd_val hy
    exact (armR_inv hz).1
  have hs1 : ∀ x ∈ es.toList, x.key ≠ .int .i64 key → ∀ z, armR base n w x.val = some z → armR base (n + 1) w1 x.val = some z := by
    intro x hx hne z hz
    obtain ⟨ho, rfl⟩ := armR_inv hz
    exact armR_mk ((ho.kept hg (hv x hx hne)).more (by omega))
  obtain ⟨es', clock', hrun, F', hput, _, _, hwho⟩ := Maps.fit_store (R' := armR base (n + 1) w1) armK Tryd.underlying56 hb1 F (Nat.lt_of_le_of_lt hs hn) hs1 hk (armR_mk hown')
  have hg2 : w1.grownBy (setBlock w1 b (.map es' clock')) (some b) := ⟨rfl, rfl, rfl, by simp [setBlock], fun i _ hi => heap_setBlock_other hb1 _ (fun e1 => hi (by rw [e1]))⟩
  obtain ⟨F2, _, _⟩ := F'.stay (R' := armR base (n + 1) (setBlock w1 b (.map es' clock'))) fun x _ z hz => by
    obtain ⟨ho, rfl⟩ := armR_inv hz
    exact armR_mk (ho.kept hg2 (ho.off hbb))
  have old_new : ∀ x ∈ es.toList, x.key ≠ .int .i64 key → x.val.ownBlock = none ∨ x.val.ownBlock ≠ v'.ownBlock := by
    intro x hx hne
    rcases hloc with h1 | ⟨g, h1, h2⟩
    · rw [h1]; exact hv x hx hne
    · cases hx' : x.val.ownBlock with
      | none => exact .inl rfl
      | some gx =>
        obtain ⟨m, xs, _, ho⟩ := owned x hx
        have := (ho.lt gx hx').2
        refine .inr fun e1 => ?_
        rw [h1] at e1
        cases e1
        omega
  refine ⟨_, hrun, ⟨es', clock', heap_setBlock_same hb1 _, F2, ?_, hbb, ?_⟩, hg2⟩
  · have e1 : es'.size = ((es'.toList.map (Go.WideElems.rg Tryd.prog 3 (armR base (n + 1) w1))).foldr DataW.insert []).length := by rw [length_sorted]; simp
    rw [e1, hput]
    unfold putKey
    rw [length_insert]
    have e2 := List.length_filter_le (notKey (.int .i64 key)) ((es.toList.map (Go.WideElems.rg Tryd.prog 3 (armR base n w))).foldr DataW.insert [])
    rw [length_sorted] at e2
    simp at e2
    omega
  · intro x hx y hy hne
    rcases hwho x hx with ⟨hx0, hxk⟩ | ⟨hxk, hxv⟩ <;> rcases hwho y hy with ⟨hy0, hyk⟩ | ⟨hyk, hyv⟩
    · exact hap x hx0 y hy0 hne
    · rw [hyv]; exact old_new x hx0 hxk
    · rw [hxv]
      cases hv' : v'.ownBlock with
      | none => exact .inl rfl
      | some g =>
        refine .inr fun e1 => ?_
        rcases old_new y hy0 hyk with h | h
        · rw [h] at e1; cases e1
        · exact h (by rw [hv', e1])
    · exact absurd (hxk.trans hyk.symm) hne
set_option maxRecDepth 100000 in
theorem AGrp.at {w : World} {base b n : Nat} (h : AGrp w base b n) (hn : n < maxLen) {key : Int} (hw : (Lit.int .i64 key).wf = true) :
    ∃ v m xs, (∀ W, w.grownBy W none → (Instr.lookup 56 (.map (some b)) (.int .i64 key) false).run Tryd.prog W = .ok v W) ∧ w.ownsRow base 61 2 v m xs ∧ m ≤ n ∧ GBack w base b n key v := by
  have hk : keyOf Tryd.prog 3 (.int .i64 key) = some (.int .i64 key) := Maps.keyOf_int_mk Tryd.underlying3 hw
  have hz : ∀ W, (zeroValue 59).run Tryd.prog W = .ok (.slice none 0 0) W := fun W => Tryd.zeroValue59 W
  obtain ⟨es, clock, hb, F, hs, hbb, hap⟩ := h
  have hW : ∀ W, w.grownBy W none → W.heap[b]? = some (.map es clock) ∧ Go.WideElems.Fit Tryd.prog 3 (armR base n W) es clock := fun W hg => by
    obtain ⟨F2, _, _⟩ := F.stay (R' := armR base n W) fun x _ z hz => by
      obtain ⟨ha, rfl⟩ := armR_inv hz
      exact armR_mk (ha.kept hg (by cases x.val.ownBlock <;> simp))
    exact ⟨(hg.block b (Array.getElem?_eq_some_iff.1 hb).1 (by simp)).trans hb, F2⟩
  have uniq : ∀ x ∈ es.toList, ∀ y ∈ es.toList, x.key = y.key → x = y := by
    have hp := Maps.fit_apart armK F
    rw [List.pairwise_map] at hp
    intro x hx y hy e
    obtain ⟨i, hi, ei⟩ := List.getElem_of_mem hx
    obtain ⟨j, hj, ej⟩ := List.getElem_of_mem hy
    have keq : (Go.WideElems.rg Tryd.prog 3 (armR base n w) x).1 = (Go.WideElems.rg Tryd.prog 3 (armR base n w) y).1 := by
      obtain ⟨a, ha⟩ := F.reads x hx
      obtain ⟨c, hc⟩ := F.reads y hy
      have k1 := rd_key ha
      have k2 := rd_key hc
      rw [rg_of ha, rg_of hc]
      rw [e, k2] at k1
      exact (Option.some.inj k1).symm
    rcases Nat.lt_trichotomy i j with hl | hl | hl
    · exact absurd (by rw [ei, ej]; exact keq) (List.pairwise_iff_getElem.1 hp i j hi hj hl)
    · subst hl; rw [← ei, ← ej]
    · exact absurd (by rw [ei, ej]; exact keq.symm) (List.pairwise_iff_getElem.1 hp j i hj hi hl)
  rcases Maps.fit_look (t := 56) (e := 59) false armK Tryd.underlying56 (hz w) hb F hk with ⟨_, hno, _⟩ | ⟨e0, y, hm0, h3, _, hR, _, _⟩
  · refine ⟨.slice none 0 0, 0, [], fun W hg => ?_, World.ownsRow_nil _ _ _ _, Nat.zero_le _, grp_back hk hb F hs hn hbb hap (fun x _ _ => ?_) (by simp [Value.ownBlock])⟩
    · obtain ⟨hb2, F2⟩ := hW W hg
      rcases Maps.fit_look (t := 56) (e := 59) false armK Tryd.underlying56 (hz W) hb2 F2 hk with ⟨hr, _, _⟩ | ⟨e1, _, hm1, h31, _⟩
      · exact hr
      · exact absurd h31 (hno e1 hm1)
    · cases x.val.ownBlock <;> simp [Value.ownBlock]
  · obtain ⟨ho, _⟩ := armR_inv hR
    obtain ⟨m, xs, h1, h2⟩ := ho
    refine ⟨e0.val, m, xs, fun W hg => ?_, h2, h1, grp_back hk hb F hs hn hbb hap (fun x hx hne => hap x hx e0 hm0 (by rw [h3]; exact hne)) fun e1 => ?_⟩
    · obtain ⟨hb2, F2⟩ := hW W hg
      rcases Maps.fit_look (t := 56) (e := 59) false armK Tryd.underlying56 (hz W) hb2 F2 hk with ⟨_, hno, _⟩ | ⟨e1, _, hm1, h31, hr, _⟩
      · exact absurd h3 (hno e0 hm0)
      · rw [uniq e0 hm0 e1 hm1 (by rw [h3, h31])]
        exact hr
    · have := (h2.lt b e1).1
      omega

end Go.Proofs.YtipgbbhgmoehfaaDoor
