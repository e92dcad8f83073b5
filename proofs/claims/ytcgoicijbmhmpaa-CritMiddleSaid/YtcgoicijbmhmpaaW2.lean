/-
  The contract of the closure that computes one side of the weights.
-/
import Derived.Test.YtcgoicijbmhmpaaW1
import Derived.RegionTactic
import Derived.BigRegion
import Derived.ChangeAlike
import Derived.Lib.Hide
namespace Go.Proofs.Ytcgoicijbmhmpaa
open Go.RowKit Go.Fl

theorem run_store_float (P : Program) (w : World) (a : Addr) (m : Mode) (k : FloatKind) (b : Nat) : (store a (.float k b) m).run P w = stored P w a (.float k b) m := run_store P w a _ m rfl
attribute [local go_sem] run_store_float
set_option maxHeartbeats 800000 in
theorem put_any (k from_ above below : Nat) (odds : Nat) (Bw g n : Nat) (w : World) (x q t r u : Nat)
    (hk : k < n) (hf : from_ < n) (_hn : n ≤ 16385)
    (hc : w.cell? ⟨Bw, 0, none⟩ = some (.slice (some ⟨g, 0, none⟩) n n))
    (hx : w.cell? ⟨g, from_, none⟩ = some (.float .f64 x))
    (hu : w.cell? ⟨g, k, none⟩ = some (.float .f64 u))
    (hz : w.frozen? ⟨g, k, none⟩ = false)
    (h1 : floatBits .quo .f64 (floatOfInt .f64 (above : Int)) (floatOfInt .f64 (below : Int)) = some q)
    (h2 : floatBits .mul .f64 x q = some t)
    (h3 : floatBits .mul .f64 t odds = some r) :
    Calls Try.prog 86 #[.int .i64 k, .int .i64 from_, .int .i64 above, .int .i64 below, .float .f64 odds, .pointer (some ⟨Bw, 0, none⟩)] w
      fun e w' => e = .returned (.tuple #[]) ∧ w' = (w.setCell ⟨g, k, none⟩ (.float .f64 r)).drew := by
  have o1 := fun ty (w : World) => run_float_arith (P := Try.prog) w .quo ty .f64 _ _ _ h1
  have o2 := fun ty (w : World) => run_float_arith (P := Try.prog) w .mul ty .f64 _ _ _ h2
  have o3 := fun ty (w : World) => run_float_arith (P := Try.prog) w .mul ty .f64 _ _ _ h3
  clear h1 h2 h3
  have l1 : (k : Int) < (n : Int) := by omega
  have l2 : (from_ : Int) < (n : Int) := by omega
  go_enter Try.func86, Try.ntmps86
  go_wp2
  go_region
  go_end0
  exact ⟨rfl, rfl⟩
theorem put_i {ki fi ai bi : Int} {k from_ above below : Nat} (e1 : ki = k) (e2 : fi = from_) (e3 : ai = above) (e4 : bi = below) {odds : Nat} {Bw g n : Nat} {w : World} {x q t r u : Nat}
    (hk : k < n) (hf : from_ < n) (hn : n ≤ 16385)
    (hc : w.cell? ⟨Bw, 0, none⟩ = some (.slice (some ⟨g, 0, none⟩) n n))
    (hx : w.cell? ⟨g, from_, none⟩ = some (.float .f64 x))
    (hu : w.cell? ⟨g, k, none⟩ = some (.float .f64 u))
    (hz : w.frozen? ⟨g, k, none⟩ = false)
    (h1 : floatBits .quo .f64 (floatOfInt .f64 (above : Int)) (floatOfInt .f64 (below : Int)) = some q)
    (h2 : floatBits .mul .f64 x q = some t)
    (h3 : floatBits .mul .f64 t odds = some r) :
    Calls Try.prog 86 #[.int .i64 ki, .int .i64 fi, .int .i64 ai, .int .i64 bi, .float .f64 odds, .pointer (some ⟨Bw, 0, none⟩)] w
      fun e w' => e = .returned (.tuple #[]) ∧ w' = (w.setCell ⟨g, k, none⟩ (.float .f64 r)).drew := by
  subst e1 e2 e3 e4
  exact put_any k from_ above below odds Bw g n w x q t r u hk hf hn hc hx hu hz h1 h2 h3
end Go.Proofs.Ytcgoicijbmhmpaa
