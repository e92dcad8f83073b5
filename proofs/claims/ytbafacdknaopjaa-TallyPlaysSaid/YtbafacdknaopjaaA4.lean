/-
  The contract of balance.
-/
import Derived.Test.YtbafacdknaopjaaA3
import Derived.Deep.RegionWith
namespace Go.Proofs.Ytbafacdknaopjaa
open Go.RowKit
set_option linter.unusedSimpArgs false

theorem T.At.drewN {t : T} {w : World} (h : t.At w) (n : Nat) : t.At (w.drewN n) := h.same fun _ _ => rfl

namespace T
def kid0 : T → T
  | leaf => leaf
  | node _ l _ _ _ => l
def kid1 : T → T
  | leaf => leaf
  | node _ _ _ _ r => r
def rot0 : T → T
  | node g (node gk a y u b) x t r => node gk a y u (node g b x t r)
  | t => t
def rot1 : T → T
  | node g l x t (node gk a y u b) => node gk (node g l x t a) y u b
  | t => t
def bal : T → T
  | leaf => leaf
  | node g l x t r =>
    if r.ht + 1 < l.ht then rot0 (node g (if l.kid0.ht < l.kid1.ht then rot1 l else l) x t r)
    else if l.ht + 1 < r.ht then rot1 (node g l x t (if r.kid1.ht < r.kid0.ht then rot0 r else r))
    else node g l x t r
end T

set_option maxRecDepth 100000 in
set_option maxHeartbeats 2000000 in
theorem bal_no (g t : Nat) (l r : T) (x s d h : Int) (w : World) (hg : w.heap[g]? = some (.cells (T.cells l x t r s d h) 194 (0, 0))) (hl : l.At w) (hr : r.At w) (hgl : g ∉ l.blocks) (hgr : g ∉ r.blocks)
    (hs : t + l.sz + r.sz ≤ 2 ^ 60) (hd : 1 + l.ds + r.ds ≤ 2 ^ 60) (h1 : l.ht ≤ r.ht + 1) (h2 : r.ht ≤ l.ht + 1) :
    Calls Try.prog 166 #[.pointer (some ⟨g, 0, none⟩)] w fun e w' => e = .returned (.pointer (some ⟨g, 0, none⟩)) ∧ (T.node g l x t r).At w' ∧ Only [g] w w' := by
  have l1 := ht_le l
  have l2 := ht_le r
  obtain ⟨c0, c1, c2, c3, c4, c5, c6⟩ := node_cells hg
  have HG := Lib.hid hg
  have HL := Lib.hid hl
  have HR := Lib.hid hr
  clear hg hl hr
  have CL := Lib.hid (fun W (h : l.At W) => sizes_any l W h)
  have CR := Lib.hid (fun W (h : r.At W) => sizes_any r W h)
  have w1 : IntKind.i64.wrap ((r.ht : Int) + 1) = (r.ht : Int) + 1 := IntWalk.i64_in _ (by omega)
  go_enter Try.func166, Try.ntmps166
  go_wp2
  refine wp_loop_rounds 3 ?_; rw [rounds_succ]
  go_wp2_with fail
  refine (CL.out _ HL.out).mono ?_
  rintro e wz ⟨rfl, n1, rfl⟩
  go_wp2_with fail
  refine (CR.out _ (HR.out.drewN _)).mono ?_
  rintro e wz ⟨rfl, n2, rfl⟩
  go_wp2_with fail
  rw [rounds_succ]
  go_wp2_with fail
  refine (CR.out _ (HR.out.drewN _)).mono ?_
  rintro e wz ⟨rfl, n3, rfl⟩
  go_wp2_with fail
  refine (CL.out _ (HL.out.drewN _)).mono ?_
  rintro e wz ⟨rfl, n4, rfl⟩
  go_wp2_with fail
  rw [rounds_succ]
  go_wp2_with fail
  refine (refresh_any g t l r x s d h _ (by exact HG.out) (HL.out.drewN _) (HR.out.drewN _) hgl hgr (by omega) (by omega) (by omega)).mono ?_
  rintro e w1 ⟨⟨v, rfl⟩, hg1, ho1⟩
  have nin : ∀ {t : T}, g ∉ t.blocks → ∀ k, k ∈ t.blocks → k ∉ [g] := fun h k hk hm => h (by rw [List.mem_singleton] at hm; rw [← hm]; exact hk)
  go_wp2
  go_ret
  exact ⟨rfl, ⟨hg1, (HL.out.drewN _).only ho1 (nin hgl), (HR.out.drewN _).only ho1 (nin hgr)⟩, ((Only.refl _ w).drewN _).trans ho1⟩

set_option maxRecDepth 100000 in
set_option maxHeartbeats 2000000 in
theorem bal_l0 (g gk t u : Nat) (a b r : T) (x y s d h : Int) (w : World) (hg : w.heap[g]? = some (.cells (T.cells (.node gk a y u b) x t r s d h) 194 (0, 0))) (hl : (T.node gk a y u b).At w) (hr : r.At w)
    (hnd : (T.node g (.node gk a y u b) x t r).blocks.Nodup) (hs : t + (u + a.sz + b.sz) + r.sz ≤ 2 ^ 60) (hd : 1 + (1 + a.ds + b.ds) + r.ds ≤ 2 ^ 60) (h1 : r.ht + 1 < (T.node gk a y u b).ht) (h2 : b.ht ≤ a.ht) :
    Calls Try.prog 166 #[.pointer (some ⟨g, 0, none⟩)] w fun e w' => e = .returned (.pointer (some ⟨gk, 0, none⟩)) ∧ (T.node gk a y u (.node g b x t r)).At w' ∧ Only (T.node g (.node gk a y u b) x t r).blocks w w' := by
  have l3 := ht_le r
  obtain ⟨c0, c1, c2, c3, c4, c5, c6⟩ := node_cells hg
  obtain ⟨hk, ha, hb⟩ := id hl
  obtain ⟨k0, k1, k2, k3, k4, k5, k6⟩ := node_cells hk
  have HG := Lib.hid hg
  have HL := Lib.hid hl
  have HA := Lib.hid ha
  have HB := Lib.hid hb
  have HK := Lib.hid hk
  have HR := Lib.hid hr
  have HN := Lib.hid hnd
  clear hg hl hr ha hb hk hnd
  have CL := Lib.hid (fun W (h : (T.node gk a y u b).At W) => sizes_any (T.node gk a y u b) W h)
  have CR := Lib.hid (fun W (h : r.At W) => sizes_any r W h)
  have CA := Lib.hid (fun W (h : a.At W) => sizes_any a W h)
  have CB := Lib.hid (fun W (h : b.At W) => sizes_any b W h)
  have w1 : IntKind.i64.wrap ((r.ht : Int) + 1) = (r.ht : Int) + 1 := IntWalk.i64_in _ (by omega)
  replace c0 : w.cell? ⟨g, 0, none⟩ = some (.pointer (some ⟨gk, 0, none⟩)) := c0
  go_enter Try.func166, Try.ntmps166
  go_wp2
  refine wp_loop_rounds 1 ?_; rw [rounds_succ]
  go_wp2_with fail
  refine (CL.out _ HL.out).mono ?_
  rintro e wz ⟨rfl, n1, rfl⟩
  go_wp2_with fail
  refine (CR.out _ (HR.out.drewN _)).mono ?_
  rintro e wz ⟨rfl, n2, rfl⟩
  go_wp2_with fail
  refine (CB.out _ (HB.out.drewN _)).mono ?_
  rintro e wz ⟨rfl, n3, rfl⟩
  go_wp2_with fail
  refine (CA.out _ (HA.out.drewN _)).mono ?_
  rintro e wz ⟨rfl, n4, rfl⟩
  go_wp2_with fail
  refine (rotate0_any g gk t u a b r x y s d h _ _ _ _ (by exact HG.out) (by exact HK.out) (HA.out.drewN _) (HB.out.drewN _) (HR.out.drewN _) HN.out hs hd).mono ?_
  rintro e w1 ⟨rfl, hA1, hO1⟩
  go_wp2
  go_ret
  exact ⟨rfl, hA1, ((Only.refl _ w).drewN _).trans hO1⟩

theorem perm_l1 (g gk gm : Nat) (a p q r : T) (x y z : Int) (t u v : Nat) : (T.node g (T.node gm (T.node gk a y u p) z v q) x t r).blocks.Perm (T.node g (T.node gk a y u (T.node gm p z v q)) x t r).blocks := by
  simp only [T.blocks, List.cons_append, List.append_assoc]
  refine .cons g ?_
  refine (List.Perm.swap gk gm _).trans (.cons gk ?_)
  exact List.perm_middle.symm

set_option maxRecDepth 100000 in
set_option maxHeartbeats 2000000 in
theorem bal_l1 (g gk gm t u v : Nat) (a p q r : T) (x y z s d h : Int) (w : World) (hg : w.heap[g]? = some (.cells (T.cells (.node gk a y u (.node gm p z v q)) x t r s d h) 194 (0, 0))) (hl : (T.node gk a y u (.node gm p z v q)).At w) (hr : r.At w)
    (hnd : (T.node g (.node gk a y u (.node gm p z v q)) x t r).blocks.Nodup) (hs : t + (u + a.sz + (v + p.sz + q.sz)) + r.sz ≤ 2 ^ 60) (hd : 1 + (1 + a.ds + (1 + p.ds + q.ds)) + r.ds ≤ 2 ^ 60) (h1 : r.ht + 1 < (T.node gk a y u (.node gm p z v q)).ht) (h2 : a.ht < (T.node gm p z v q).ht) :
    Calls Try.prog 166 #[.pointer (some ⟨g, 0, none⟩)] w fun e w' => e = .returned (.pointer (some ⟨gm, 0, none⟩)) ∧ (T.node gm (.node gk a y u p) z v (.node g q x t r)).At w' ∧ Only (T.node g (.node gk a y u (.node gm p z v q)) x t r).blocks w w' := by
  have l3 := ht_le r
  obtain ⟨c0, c1, c2, c3, c4, c5, c6⟩ := node_cells hg
  obtain ⟨hk, ha, hb⟩ := id hl
  obtain ⟨k0, k1, k2, k3, k4, k5, k6⟩ := node_cells hk
  obtain ⟨hm, hp, hq⟩ := id hb
  have HM := Lib.hid hm
  have HP := Lib.hid hp
  have HQ := Lib.hid hq
  clear hm hp hq
  have HG := Lib.hid hg
  have HL := Lib.hid hl
  have HA := Lib.hid ha
  have HB := Lib.hid hb
  have HK := Lib.hid hk
  have HR := Lib.hid hr
  have HN := Lib.hid hnd
  clear hg hl hr ha hb hk hnd
  have CL := Lib.hid (fun W (h : (T.node gk a y u (.node gm p z v q)).At W) => sizes_any (T.node gk a y u (.node gm p z v q)) W h)
  have CR := Lib.hid (fun W (h : r.At W) => sizes_any r W h)
  have CA := Lib.hid (fun W (h : a.At W) => sizes_any a W h)
  have CB := Lib.hid (fun W (h : (T.node gm p z v q).At W) => sizes_any (T.node gm p z v q) W h)
  have w1 : IntKind.i64.wrap ((r.ht : Int) + 1) = (r.ht : Int) + 1 := IntWalk.i64_in _ (by omega)
  replace c0 : w.cell? ⟨g, 0, none⟩ = some (.pointer (some ⟨gk, 0, none⟩)) := c0
  go_enter Try.func166, Try.ntmps166
  go_wp2
  refine wp_loop_rounds 1 ?_; rw [rounds_succ]
  go_wp2_with fail
  refine (CL.out _ HL.out).mono ?_
  rintro e wz ⟨rfl, n1, rfl⟩
  go_wp2_with fail
  refine (CR.out _ (HR.out.drewN _)).mono ?_
  rintro e wz ⟨rfl, n2, rfl⟩
  go_wp2_with fail
  refine (CB.out _ (HB.out.drewN _)).mono ?_
  rintro e wz ⟨rfl, n3, rfl⟩
  go_wp2_with fail
  refine (CA.out _ (HA.out.drewN _)).mono ?_
  rintro e wz ⟨rfl, n4, rfl⟩
  go_wp2_with fail
  have zg := frozen_of_heap (i := 0) HG.out
  replace k1 : w.cell? ⟨gk, 1, none⟩ = some (.pointer (some ⟨gm, 0, none⟩)) := k1
  have hn := HN.out
  simp only [T.blocks, List.nodup_cons, List.mem_cons, List.mem_append, not_or, List.cons_append] at hn
  obtain ⟨⟨hn1, ⟨hna, hn2, hnp, hnq⟩, hnr⟩, ⟨⟨hka, hkm, hkp, hkq⟩, hkr⟩, hnab⟩ := hn
  have NK : (T.node gk a y u (.node gm p z v q)).blocks.Nodup := (List.nodup_append.1 (List.nodup_cons.1 HN.out).2).1
  have NG : g ∉ (T.node gk a y u (.node gm p z v q)).blocks := fun hm => (List.nodup_cons.1 HN.out).1 (List.mem_append_left _ hm)
  have HGN := Lib.hid NG
  have HKN := Lib.hid NK
  clear NK NG hnab
  go_region_with (go_at_call 185; refine (rotate1_any gk gm u v p q a y z _ _ _ _ _ _ _ (by exact HK.out) (by exact HM.out) (by exact HP.out.drewN _) (by exact HQ.out.drewN _) (by exact HA.out.drewN _) HKN.out (by omega) (by omega)).mono ?_; rintro e w1 ⟨rfl, hA1, hO1⟩; have gG := (hO1.block g (heap_lt (show (w.drewN _).heap[g]? = _ from HG.out)) HGN.out).trans HG.out; have zc := cell_of_heap (i := 0) gG rfl; have zz := frozen_of_heap (i := 0) gG)
  have G2 := set_heap (i := 0) (.pointer (some ⟨gm, 0, none⟩)) gG
  have HNK := Lib.hid (T.At.set hA1 (i := 0) (.pointer (some ⟨gm, 0, none⟩)) (show g ∉ (T.node gm (T.node gk a y u p) z v q).blocks by
    simp only [T.blocks, List.mem_cons, List.mem_append, not_or]; exact ⟨hn2, ⟨hn1, hna, hnp⟩, hnq⟩))
  have HR2 := Lib.hid ((((HR.out.drewN (n1 + n2 + n3 + n4 + 1)).only hO1 (fun k hk hm => (List.nodup_append.1 (List.nodup_cons.1 HN.out).2).2.2 k hm k hk rfl))).set (g := g) (i := 0) (.pointer (some ⟨gm, 0, none⟩)) hnr)
  have HO := Lib.hid hO1
  have HG2 := Lib.hid G2
  have HP2 := Lib.hid (perm_l1 g gk gm a p q r x y z t u v)
  clear zc zz gG G2 hA1 hO1 zg
  go_wp2_with fail
  refine (rotate0_any g gm t v (.node gk a y u p) q r x z s d h _ _ _ _ (by exact HG2.out) (by exact HNK.out.1) (by exact HNK.out.2.1) (by exact HNK.out.2.2) HR2.out (HP2.out.nodup_iff.2 HN.out) (by simp only [T.sz]; omega) (by simp only [T.ds]; omega)).mono ?_
  rintro e w2 ⟨rfl, hA1, hO2⟩
  go_wp2
  go_ret
  exact ⟨rfl, hA1, ((((Only.refl _ w).drewN _).trans (HO.out.mono fun k hk => List.mem_cons_of_mem _ (List.mem_append_left _ hk))).setCell (by exact List.mem_cons_self) _).trans (hO2.mono fun k hk => HP2.out.mem_iff.1 hk)⟩

set_option maxRecDepth 100000 in
set_option maxHeartbeats 2000000 in
theorem bal_r0 (g gk t u : Nat) (a b r : T) (x y s d h : Int) (w : World) (hg : w.heap[g]? = some (.cells (T.cells r x t (.node gk a y u b) s d h) 194 (0, 0))) (hl : (T.node gk a y u b).At w) (hr : r.At w)
    (hnd : (T.node g r x t (.node gk a y u b)).blocks.Nodup) (hs : t + r.sz + (u + a.sz + b.sz) ≤ 2 ^ 60) (hd : 1 + r.ds + (1 + a.ds + b.ds) ≤ 2 ^ 60) (h1 : r.ht + 1 < (T.node gk a y u b).ht) (h2 : a.ht ≤ b.ht) :
    Calls Try.prog 166 #[.pointer (some ⟨g, 0, none⟩)] w fun e w' => e = .returned (.pointer (some ⟨gk, 0, none⟩)) ∧ (T.node gk (.node g r x t a) y u b).At w' ∧ Only (T.node g r x t (.node gk a y u b)).blocks w w' := by
  have l3 := ht_le r
  obtain ⟨c0, c1, c2, c3, c4, c5, c6⟩ := node_cells hg
  obtain ⟨hk, ha, hb⟩ := id hl
  obtain ⟨k0, k1, k2, k3, k4, k5, k6⟩ := node_cells hk
  have HG := Lib.hid hg
  have HL := Lib.hid hl
  have HA := Lib.hid ha
  have HB := Lib.hid hb
  have HK := Lib.hid hk
  have HR := Lib.hid hr
  have HN := Lib.hid hnd
  clear hg hl hr ha hb hk hnd
  have CL := Lib.hid (fun W (h : (T.node gk a y u b).At W) => sizes_any (T.node gk a y u b) W h)
  have CR := Lib.hid (fun W (h : r.At W) => sizes_any r W h)
  have CA := Lib.hid (fun W (h : a.At W) => sizes_any a W h)
  have CB := Lib.hid (fun W (h : b.At W) => sizes_any b W h)
  have w1 : IntKind.i64.wrap ((r.ht : Int) + 1) = (r.ht : Int) + 1 := IntWalk.i64_in _ (by omega)
  have l4 := ht_le (T.node gk a y u b)
  simp only [T.ds] at l4
  have w2 : IntKind.i64.wrap ((((T.node gk a y u b).ht : Nat) : Int) + 1) = (((T.node gk a y u b).ht : Nat) : Int) + 1 := IntWalk.i64_in _ (by omega)
  replace c1 : w.cell? ⟨g, 1, none⟩ = some (.pointer (some ⟨gk, 0, none⟩)) := c1
  go_enter Try.func166, Try.ntmps166
  go_wp2
  refine wp_loop_rounds 2 ?_; rw [rounds_succ]
  go_wp2_with fail
  refine (CR.out _ HR.out).mono ?_
  rintro e wz ⟨rfl, n1, rfl⟩
  go_wp2_with fail
  refine (CL.out _ (HL.out.drewN _)).mono ?_
  rintro e wz ⟨rfl, n2, rfl⟩
  go_wp2_with fail
  rw [rounds_succ]
  go_wp2_with fail
  refine (CL.out _ (HL.out.drewN _)).mono ?_
  rintro e wz ⟨rfl, n3, rfl⟩
  go_wp2_with fail
  refine (CR.out _ (HR.out.drewN _)).mono ?_
  rintro e wz ⟨rfl, n4, rfl⟩
  go_wp2_with fail
  refine (CA.out _ (HA.out.drewN _)).mono ?_
  rintro e wz ⟨rfl, n5, rfl⟩
  go_wp2_with fail
  refine (CB.out _ (HB.out.drewN _)).mono ?_
  rintro e wz ⟨rfl, n6, rfl⟩
  go_wp2_with fail
  refine (rotate1_any g gk t u a b r x y s d h _ _ _ _ (by exact HG.out) (by exact HK.out) (HA.out.drewN _) (HB.out.drewN _) (HR.out.drewN _) HN.out hs hd).mono ?_
  rintro e w1 ⟨rfl, hA1, hO1⟩
  go_wp2
  go_ret
  exact ⟨rfl, hA1, ((Only.refl _ w).drewN _).trans hO1⟩

theorem perm_r1 (g gk gm : Nat) (b p q r : T) (x y z : Int) (t u v : Nat) : (T.node g r x t (T.node gm p z v (T.node gk q y u b))).blocks.Perm (T.node g r x t (T.node gk (T.node gm p z v q) y u b)).blocks := by
  simp only [T.blocks, List.cons_append, List.append_assoc]
  refine .cons g (List.Perm.append_left _ ?_)
  exact ((List.perm_middle (a := gk) (l₁ := p.blocks) (l₂ := q.blocks ++ b.blocks)).cons gm).trans (List.Perm.swap gk gm _)

set_option maxRecDepth 100000 in
set_option maxHeartbeats 2000000 in
theorem bal_r1 (g gk gm t u v : Nat) (b p q r : T) (x y z s d h : Int) (w : World) (hg : w.heap[g]? = some (.cells (T.cells r x t (.node gk (.node gm p z v q) y u b) s d h) 194 (0, 0))) (hl : (T.node gk (.node gm p z v q) y u b).At w) (hr : r.At w)
    (hnd : (T.node g r x t (.node gk (.node gm p z v q) y u b)).blocks.Nodup) (hs : t + r.sz + (u + (v + p.sz + q.sz) + b.sz) ≤ 2 ^ 60) (hd : 1 + r.ds + (1 + (1 + p.ds + q.ds) + b.ds) ≤ 2 ^ 60) (h1 : r.ht + 1 < (T.node gk (.node gm p z v q) y u b).ht) (h2 : b.ht < (T.node gm p z v q).ht) :
    Calls Try.prog 166 #[.pointer (some ⟨g, 0, none⟩)] w fun e w' => e = .returned (.pointer (some ⟨gm, 0, none⟩)) ∧ (T.node gm (.node g r x t p) z v (.node gk q y u b)).At w' ∧ Only (T.node g r x t (.node gk (.node gm p z v q) y u b)).blocks w w' := by
  have l3 := ht_le r
  obtain ⟨c0, c1, c2, c3, c4, c5, c6⟩ := node_cells hg
  obtain ⟨hk, ha, hb⟩ := id hl
  obtain ⟨k0, k1, k2, k3, k4, k5, k6⟩ := node_cells hk
  obtain ⟨hm, hp, hq⟩ := id ha
  have HM := Lib.hid hm
  have HP := Lib.hid hp
  have HQ := Lib.hid hq
  clear hm hp hq
  have HG := Lib.hid hg
  have HL := Lib.hid hl
  have HA := Lib.hid ha
  have HB := Lib.hid hb
  have HK := Lib.hid hk
  have HR := Lib.hid hr
  have HN := Lib.hid hnd
  clear hg hl hr ha hb hk hnd
  have CL := Lib.hid (fun W (h : (T.node gk (.node gm p z v q) y u b).At W) => sizes_any (T.node gk (.node gm p z v q) y u b) W h)
  have CR := Lib.hid (fun W (h : r.At W) => sizes_any r W h)
  have CA := Lib.hid (fun W (h : (T.node gm p z v q).At W) => sizes_any (T.node gm p z v q) W h)
  have CB := Lib.hid (fun W (h : b.At W) => sizes_any b W h)
  have w1 : IntKind.i64.wrap ((r.ht : Int) + 1) = (r.ht : Int) + 1 := IntWalk.i64_in _ (by omega)
  have l4 := ht_le (T.node gk (.node gm p z v q) y u b)
  simp only [T.ds] at l4
  have w2 : IntKind.i64.wrap ((((T.node gk (.node gm p z v q) y u b).ht : Nat) : Int) + 1) = (((T.node gk (.node gm p z v q) y u b).ht : Nat) : Int) + 1 := IntWalk.i64_in _ (by omega)
  replace c1 : w.cell? ⟨g, 1, none⟩ = some (.pointer (some ⟨gk, 0, none⟩)) := c1
  go_enter Try.func166, Try.ntmps166
  go_wp2
  refine wp_loop_rounds 2 ?_; rw [rounds_succ]
  go_wp2_with fail
  refine (CR.out _ HR.out).mono ?_
  rintro e wz ⟨rfl, n1, rfl⟩
  go_wp2_with fail
  refine (CL.out _ (HL.out.drewN _)).mono ?_
  rintro e wz ⟨rfl, n2, rfl⟩
  go_wp2_with fail
  rw [rounds_succ]
  go_wp2_with fail
  refine (CL.out _ (HL.out.drewN _)).mono ?_
  rintro e wz ⟨rfl, n3, rfl⟩
  go_wp2_with fail
  refine (CR.out _ (HR.out.drewN _)).mono ?_
  rintro e wz ⟨rfl, n4, rfl⟩
  go_wp2_with fail
  refine (CA.out _ (HA.out.drewN _)).mono ?_
  rintro e wz ⟨rfl, n5, rfl⟩
  go_wp2_with fail
  refine (CB.out _ (HB.out.drewN _)).mono ?_
  rintro e wz ⟨rfl, n6, rfl⟩
  go_wp2_with fail
  have zg := frozen_of_heap (i := 1) HG.out
  replace k0 : w.cell? ⟨gk, 0, none⟩ = some (.pointer (some ⟨gm, 0, none⟩)) := k0
  have hnc := List.nodup_cons.1 HN.out
  have hn := hnc.1
  simp only [T.blocks, List.mem_cons, List.mem_append, not_or, List.cons_append] at hn
  obtain ⟨hnr, hn1, hn2, ⟨hnp, hnq⟩, hnb⟩ := hn
  have HKN := Lib.hid (List.nodup_append.1 hnc.2).2.1
  have HGN := Lib.hid (show g ∉ (T.node gk (T.node gm p z v q) y u b).blocks from fun hm => hnc.1 (List.mem_append_right _ hm))
  have HDJ := Lib.hid (show ∀ k, k ∈ r.blocks → k ∉ (T.node gk (T.node gm p z v q) y u b).blocks from fun k hk hm => (List.nodup_append.1 hnc.2).2.2 k hk k hm rfl)
  clear hnc
  go_region_with (go_at_call 185; refine (rotate0_any gk gm u v p q b y z _ _ _ _ _ _ _ (by exact HK.out) (by exact HM.out) (by exact HP.out.drewN _) (by exact HQ.out.drewN _) (by exact HB.out.drewN _) HKN.out (by omega) (by omega)).mono ?_; rintro e w1 ⟨rfl, hA1, hO1⟩; have gG := (hO1.block g (heap_lt (show (w.drewN _).heap[g]? = _ from HG.out)) HGN.out).trans HG.out; have zc := cell_of_heap (i := 1) gG rfl; have zz := frozen_of_heap (i := 1) gG)
  have G2 := set_heap (i := 1) (.pointer (some ⟨gm, 0, none⟩)) gG
  have HNK := Lib.hid (T.At.set hA1 (i := 1) (.pointer (some ⟨gm, 0, none⟩)) (show g ∉ (T.node gm p z v (T.node gk q y u b)).blocks by
    simp only [T.blocks, List.mem_cons, List.mem_append, not_or]; exact ⟨hn2, hnp, hn1, hnq, hnb⟩))
  have HR2 := Lib.hid ((((HR.out.drewN (n1 + n2 + n3 + n4 + n5 + n6 + 1)).only hO1 HDJ.out)).set (g := g) (i := 1) (.pointer (some ⟨gm, 0, none⟩)) hnr)
  have HO := Lib.hid hO1
  have HG2 := Lib.hid G2
  have HP2 := Lib.hid (perm_r1 g gk gm b p q r x y z t u v)
  clear zc zz gG G2 hA1 hO1 zg
  go_wp2_with fail
  refine (rotate1_any g gm t v p (.node gk q y u b) r x z s d h _ _ _ _ (by exact HG2.out) (by exact HNK.out.1) (by exact HNK.out.2.1) (by exact HNK.out.2.2) HR2.out (HP2.out.nodup_iff.2 HN.out) (by simp only [T.sz]; omega) (by simp only [T.ds]; omega)).mono ?_
  rintro e w2 ⟨rfl, hA1, hO2⟩
  go_wp2
  go_ret
  exact ⟨rfl, hA1, ((((Only.refl _ w).drewN _).trans (HO.out.mono fun k hk => List.mem_cons_of_mem _ (List.mem_append_right _ hk))).setCell (by exact List.mem_cons_self) _).trans (hO2.mono fun k hk => HP2.out.mem_iff.1 hk)⟩

end Go.Proofs.Ytbafacdknaopjaa
