/-
  Three rows of the call's own that grow side by side.
-/
import Derived.Test.YtcgoicijbmhmpaaE1
import Derived.Test.YtcgoicijbmhmpaaW14
import Derived.Test.YtcgoicijbmhmpaaIn
namespace Go.Proofs.Ytcgoicijbmhmpaa
open Go Go.RowKit

theorem own_place {P : Program} {w : World} {base : Nat} {t ty e : TypeId} {i : TypeInfo} {z : Value} {size bytes : Nat} (ht : P.underlying t = some (.slice e)) (hi : P.info? e = some i) (hz : i.zero = some z)
    (hsize : i.size = size) (hby : i.bytes = bytes) (hzs : z.cells.size = size) (hsz : 0 < size) {v : Value} {n : Nat} {xs : List Value} (hown : w.ownsRow base e size v n xs)
    {a : Addr} {m c : Nat} {news : List Value} (hl : news.length = m * size) (hnews : ∀ j u, news[j]? = some u → w.cell? (a.add j) = some u) (h1 : ∀ u ∈ news, u.oneCell' = true)
    (h63 : n + m ≤ maxLen) (hbytes : (n + m) * bytes ≤ 140737488355328) {v' : Value} {w' : World}
    (hr : (Builtin.append_ #[t, t] ty #[v, .slice (some a) m c]).run P w = .ok v' w') :
    ∀ g', v'.ownBlock = some g' → v.ownBlock = some g' ∨ w.heap.size ≤ g' := by
  intro g' hg'
  rcases hown.2 with ⟨rfl, rfl⟩ | ⟨g, cap, cur, rfl, _⟩
  · have hx : xs = [] := by have := hown.1; simp at this; exact this
    subst hx
    obtain ⟨v2, w2, hr2, h2, _, _⟩ := run_append_own (P := P) w w.heap.size t ty e i z size bytes ht hi hz hsize hby hzs hsz (.slice none 0 0) 0 [] (World.ownsRow_nil _ _ _ _) a m c news hl hnews h1 h63 hbytes (Nat.le_refl _)
    rw [hr] at hr2
    injection hr2 with e1 e2
    subst e1
    exact .inr (h2.lt g' hg').1
  · obtain ⟨g2, cap2, rfl, hor⟩ := own_at ht hi hz hsize hby hown hl hnews h1 h63 hbytes hr
    have e1 : g2 = g' := by simpa [Value.ownBlock] using hg'
    subst e1
    rcases hor with h | h
    · exact .inl (by rw [h]; rfl)
    · exact .inr (by omega)

theorem wpList_append_beside {P : Program} {w : World} {ops : Array Oper} {rest : List Oper} {o : Oper} {a : Act} {Q : Exit → Act → World → Prop} (hgd : o.guard = none) (s x : Operand) (t : TypeId)
    (ho : o.op = .call { callee := .builtin .append, args := #[s, x], argTypes := #[t, t] })
    (base : Nat) (e : TypeId) (i : TypeInfo) (z : Value) (size bytes : Nat) (ht : P.underlying t = some (.slice e)) (hi : P.info? e = some i) (hz : i.zero = some z)
    (hsize : i.size = size) (hby : i.bytes = bytes) (hzs : z.cells.size = size) (hsz : 0 < size)
    (v : Value) (n : Nat) (xs : List Value) (hs : a.eval s = v) (hown : w.ownsRow base e size v n xs)
    (ad : Addr) (m c : Nat) (news : List Value) (hx : a.eval x = .slice (some ad) m c) (hl : news.length = m * size) (hnews : ∀ j u, news[j]? = some u → w.cell? (ad.add j) = some u) (h1 : ∀ u ∈ news, u.oneCell' = true)
    (h63 : n + m ≤ maxLen) (hbytes : (n + m) * bytes ≤ 140737488355328) (hbase : base ≤ w.heap.size)
    (h : ∀ v' w', w'.ownsRow base e size v' (n + m) (xs ++ news) → w.grownBy w' v.ownBlock → (∀ g', v'.ownBlock = some g' → v.ownBlock = some g' ∨ w.heap.size ≤ g') → wpList P ops Q rest (a.put o.dst v') w') :
    wpList P ops Q (o :: rest) a w := by
  refine wpList_plain hgd fun K hK => ?_
  obtain ⟨v', w', hr, h2, h3, _⟩ := run_append_own (P := P) w base t o.type e i z size bytes ht hi hz hsize hby hzs hsz v n xs hown ad m c news hl hnews h1 h63 hbytes hbase
  have hp := own_place ht hi hz hsize hby hzs hsz hown hl hnews h1 h63 hbytes hr
  have hk := hK _ _ (h v' w' h2 h3 hp)
  unfold Oper.wp execOp
  simp only [ho, resolve, invoke, builtin, Sem.run_bind, Sem.run_pure, Result.andThen_ok, List.map_toArray, List.map_cons, List.map_nil, hs, hx, hr]
  exact hk

/-- Three rows, each in a block of its own. -/
structure Tri (w W : World) (ka : Nat) (va : Value) (kb : Nat) (vb : Value) (kc : Nat) (vc : Value) (fa fb fc : Nat → Nat) : Prop where
  a : W.ownsRow w.heap.size 22 1 va ka (cellsOf fa ka)
  b : W.ownsRow w.heap.size 22 1 vb kb (cellsOf fb kb)
  c : W.ownsRow w.heap.size 22 1 vc kc (cellsOf fc kc)
  ab : ∀ g, va.ownBlock = some g → vb.ownBlock = some g → False
  bc : ∀ g, vb.ownBlock = some g → vc.ownBlock = some g → False
  ca : ∀ g, vc.ownBlock = some g → va.ownBlock = some g → False
  bel : Below w.heap.size w W
theorem Tri.rot {w W : World} {ka kb kc : Nat} {va vb vc : Value} {fa fb fc : Nat → Nat} (h : Tri w W ka va kb vb kc vc fa fb fc) : Tri w W kb vb kc vc ka va fb fc fa :=
  ⟨h.b, h.c, h.a, h.bc, h.ca, h.ab, h.bel⟩
theorem Tri.alloc {w W : World} {ka kb kc : Nat} {va vb vc : Value} {fa fb fc : Nat → Nat} (h : Tri w W ka va kb vb kc vc fa fb fc) (o : Obj) : Tri w (W.alloc o) ka va kb vb kc vc fa fb fc :=
  ⟨h.a.alloc o, h.b.alloc o, h.c.alloc o, h.ab, h.bc, h.ca, h.bel.alloc h.bel.size o⟩
theorem Tri.nil (w : World) (fa fb fc : Nat → Nat) : Tri w w 0 (.slice none 0 0) 0 (.slice none 0 0) 0 (.slice none 0 0) fa fb fc :=
  ⟨World.ownsRow_nil _ _ _ _, World.ownsRow_nil _ _ _ _, World.ownsRow_nil _ _ _ _, fun _ h => by simp [Value.ownBlock] at h, fun _ h => by simp [Value.ownBlock] at h, fun _ h => by simp [Value.ownBlock] at h, Below.refl _ _⟩
theorem Tri.step {w W w1 : World} {ka kb kc : Nat} {va vb vc v' : Value} {fa fb fc : Nat → Nat} (h : Tri w W ka va kb vb kc vc fa fb fc) (h1 : w1.ownsRow w.heap.size 22 1 v' (ka + 1) (cellsOf fa ka ++ [.float .f64 (fa ka)]))
    (hg : W.grownBy w1 va.ownBlock) (hp : ∀ g', v'.ownBlock = some g' → va.ownBlock = some g' ∨ W.heap.size ≤ g') : Tri w w1 (ka + 1) v' kb vb kc vc fa fb fc := by
  obtain ⟨a, b⟩ := own_step h.a h.bel hg h1
  have nb : vb.ownBlock = none ∨ vb.ownBlock ≠ va.ownBlock := by
    cases hb : vb.ownBlock with
    | none => exact .inl rfl
    | some g => exact .inr fun e => h.ab g e.symm hb
  have nc : vc.ownBlock = none ∨ vc.ownBlock ≠ va.ownBlock := by
    cases hc : vc.ownBlock with
    | none => exact .inl rfl
    | some g => exact .inr fun e => h.ca g hc e.symm
  refine ⟨a.out, h.b.kept hg nb, h.c.kept hg nc, fun g e1 e2 => ?_, h.bc, fun g e1 e2 => ?_, b⟩
  · rcases hp g e1 with h3 | h3
    · exact h.ab g h3 e2
    · have := (h.b.lt g e2).2; omega
  · rcases hp g e2 with h3 | h3
    · exact h.ca g e1 h3
    · have := (h.c.lt g e1).2; omega
end Go.Proofs.Ytcgoicijbmhmpaa
