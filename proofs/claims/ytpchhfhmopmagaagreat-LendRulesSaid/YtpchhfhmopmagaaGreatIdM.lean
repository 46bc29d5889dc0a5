/- sat.Add; ewma: Floor, Step, Away. idle: right, held, New, Sent, Carry, Over. idle.New; the states as elements of a map. -/
import Derived.Test.YtpchhfhmopmagaaGreatSrM
import Derived.Test.YtpchhfhmopmagaaGreatSsM
import Derived.Test.YtpchhfhmopmagaaGreatTr5
import Derived.Test.YtpchhfhmopmagaaGreatLxM
import Derived.Deep.RegionHeld3
set_option linter.unusedVariables false
set_option linter.unusedSimpArgs false
/- sat.Add; ewma: Floor, Step, Away. -/
namespace Go.Proofs.YtpchhfhmopmagaaGreat.Id
open Go.RowKit Go.Maps Wd Li St Sr

end Go.Proofs.YtpchhfhmopmagaaGreat.Id

/- idle: right, held, New, Sent, Carry, Over. -/
namespace Go.Proofs.YtpchhfhmopmagaaGreat.Id
open Go.RowKit Go.Maps Wd Li St Sr Go.Proofs.YtpchhfhmopmagaaGreat.Cl Go.Proofs.YtpchhfhmopmagaaGreat.So Go.Proofs.YtpchhfhmopmagaaGreat.Tr
attribute [local go_sem] run_store_float Lx.opX Rel.oneOk
attribute [local irreducible] Lx.wpX

/-- a class's state -/
structure S3 where
  l : Int
  a : Int
  u : Int
  deriving DecidableEq
def S3.cells (s : S3) : List Value := [.int .i64 s.l, .int .i64 s.a, .int .i64 s.u]
abbrev S3.agg (s : S3) : Value := .agg #[.int .i64 s.l, .int .i64 s.a, .int .i64 s.u]
def S3.nil : S3 := ⟨0, 0, 0⟩
set_option maxRecDepth 20000 in
theorem iright_c (c : Cls) (hs : c.share < 18446744073709551616) (w : World) : Calls Tryz.prog 137 #[c.agg] w fun e w' => e = .returned (.bool (rightS c == 0)) ∧ Below w.heap.size w w' := by
  have HR := Lib.hid (right_any c hs)
  unfold Ret1 Cls.agg at HR
  generalize rightS c = r at *
  unfold Cls.agg
  have HB := Lib.hid ((Below.refl w.heap.size w).alloc (Nat.le_refl _) (.cells #[.int .i64 c.id, .int .i64 c.parent, .float .f64 c.share, .int .i64 c.prio, .int .i64 c.quantum, .int .i64 c.limit, .int .i64 c.weight, .int .i64 c.minIdle, .int .i64 c.maxIdle, .bool c.bounded, .bool c.isolated] 84))
  have hsz : (w.alloc (.cells #[.int .i64 c.id, .int .i64 c.parent, .float .f64 c.share, .int .i64 c.prio, .int .i64 c.quantum, .int .i64 c.limit, .int .i64 c.weight, .int .i64 c.minIdle, .int .i64 c.maxIdle, .bool c.bounded, .bool c.isolated] 84)).heap.size = w.heap.size + 1 := by simp
  go_enter Tryz.func137, Tryz.ntmps137
  go_wp2_with (go_at_call 185; (with_reducible refine (HR.out _).mono ?_); rintro e w' ⟨rfl, hb⟩; have HB1 := Lib.hid (HB.out.trans (hb.mono (by omega))); clear hb)
  go_ret
  exact ⟨rfl, HB1.out⟩
set_option maxRecDepth 20000 in
theorem over_c (s : S3) (now : Int) (w : World) : Calls Tryz.prog 88 #[s.agg, .int .i64 now] w fun e w' => e = .returned (.bool (decide (now < s.u))) ∧ Below w.heap.size w w' := by
  have HB := Lib.hid ((Below.refl w.heap.size w).alloc (Nat.le_refl _) (.cells #[.int .i64 s.l, .int .i64 s.a, .int .i64 s.u] 46))
  unfold S3.agg
  go_enter Tryz.func88, Tryz.ntmps88
  go_wp2
  go_ret
  exact ⟨rfl, HB.out⟩
end Go.Proofs.YtpchhfhmopmagaaGreat.Id

/- idle.New; the states as elements of a map. -/
namespace Go.Proofs.YtpchhfhmopmagaaGreat.Id
open Go.RowKit Go.Maps Wd Li St Sr Go.Proofs.YtpchhfhmopmagaaGreat.Mp Go.Proofs.YtpchhfhmopmagaaGreat.Cl Go.Proofs.YtpchhfhmopmagaaGreat.So Go.Proofs.YtpchhfhmopmagaaGreat.Tr Go.Proofs.YtpchhfhmopmagaaGreat.Sw
attribute [local go_sem] run_store_float Lx.opX Rel.oneOk
attribute [local irreducible] Lx.wpX

def S3.enc (s : S3) : DataW Unit := .agg [ie s.l, ie s.a, ie s.u]
end Go.Proofs.YtpchhfhmopmagaaGreat.Id
