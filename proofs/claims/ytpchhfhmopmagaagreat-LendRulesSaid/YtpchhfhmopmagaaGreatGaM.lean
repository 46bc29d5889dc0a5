/- config.Set.Tree, Quota; gauge.State; gauge.New. gauge.New. gauge.Sent. The document's example of gauges; gauge.Over. The law GaugeUnder. The law GaugeUnder. -/
import Derived.Test.YtpchhfhmopmagaaGreatCfM
import Derived.Test.YtpchhfhmopmagaaGreatIdM
import Derived.Test.YtpchhfhmopmagaaGreatTp6
import Derived.Test.YtpchhfhmopmagaaGreatLxM
import Derived.Test.YtpchhfhmopmagaaGreatTp5
set_option linter.unusedVariables false
set_option linter.unusedSimpArgs false
/- config.Set.Tree, Quota; gauge.State; gauge.New. -/
namespace Go.Proofs.YtpchhfhmopmagaaGreat.Ga
open Go.RowKit Go.Maps Go.Proofs.YtpchhfhmopmagaaGreat.Wd Go.Proofs.YtpchhfhmopmagaaGreat.Li Go.Proofs.YtpchhfhmopmagaaGreat.Mp Go.Proofs.YtpchhfhmopmagaaGreat.Tr Go.Proofs.YtpchhfhmopmagaaGreat.Tp Go.Proofs.YtpchhfhmopmagaaGreat.Cl Go.Proofs.YtpchhfhmopmagaaGreat.So Go.Proofs.YtpchhfhmopmagaaGreat.Fi Go.Proofs.YtpchhfhmopmagaaGreat.Sw Go.Proofs.YtpchhfhmopmagaaGreat.Qu Go.Proofs.YtpchhfhmopmagaaGreat.Cf Go.Proofs.YtpchhfhmopmagaaGreat.Id
attribute [local go_sem] run_store_float Lx.opX Rel.oneOk
attribute [local irreducible] Lx.wpX

theorem compile_c (t r d : Int) (hdw : (Lit.int .i64 d).wf = true) (A : Option Addr) (na ca : Nat) (B : Option Addr) (mb cb : Nat) (l : List Cls) (fs : List F) (hs : ∀ x ∈ l, x.share < 18446744073709551616) (hl : l.length ≤ 1048576) (hf : fs.length ≤ 1048576) (hcap : na ≤ ca) (w : World) (hI : Holds w.heap.size w (.slice A na ca) l) (hF : HoldsF w.heap.size w (.slice B mb cb) fs) :
    Calls Tryz.prog 18 #[cfV t r d (.slice A na ca) (.slice B mb cb)] w (CompCOk t r d l fs w) := callsIn_wide.1 (compile_in 9 (by omega) t r d hdw A na ca B mb cb l fs hs hl hf hcap w hI hF)
set_option maxRecDepth 20000 in
theorem settree_c (S : Nat) (v : Value) (w : World) (h : w.cell? ⟨S, 0, none⟩ = some v) : Calls Tryz.prog 19 #[.pointer (some ⟨S, 0, none⟩)] w fun e w' => e = .returned v ∧ w = w' := by
  go_enter Tryz.func19, Tryz.ntmps19
  go_wp2
  go_ret
  exact ⟨rfl, rfl⟩
abbrev StM (w : World) (h n : Nat) (st : Int → Option S3) : Prop := At S3.agg S3.enc S3.nil Tryz.prog 3 w h n st
end Go.Proofs.YtpchhfhmopmagaaGreat.Ga

/- gauge.New. -/
namespace Go.Proofs.YtpchhfhmopmagaaGreat.Ga
open Go.RowKit Go.Maps Go.Proofs.YtpchhfhmopmagaaGreat.Wd Go.Proofs.YtpchhfhmopmagaaGreat.Li Go.Proofs.YtpchhfhmopmagaaGreat.Mp Go.Proofs.YtpchhfhmopmagaaGreat.Tr Go.Proofs.YtpchhfhmopmagaaGreat.Tp Go.Proofs.YtpchhfhmopmagaaGreat.Cl Go.Proofs.YtpchhfhmopmagaaGreat.So Go.Proofs.YtpchhfhmopmagaaGreat.Fi Go.Proofs.YtpchhfhmopmagaaGreat.Sw Go.Proofs.YtpchhfhmopmagaaGreat.Qu Go.Proofs.YtpchhfhmopmagaaGreat.Cf Go.Proofs.YtpchhfhmopmagaaGreat.Id
attribute [local go_sem] run_store_float Lx.opX Rel.oneOk
attribute [local irreducible] Lx.wpX

/-- a gauge lies at g, its map at h, below B; its set at S -/
structure GaugeAt (w : World) (g h S : Nat) (st : Int → Option S3) : Prop where
  cell : w.heap[g]? = some (.cells #[.pointer (some ⟨S, 0, none⟩), .map (some h)] 122 (0, 0))
  map : StM w h 64 st
end Go.Proofs.YtpchhfhmopmagaaGreat.Ga

/- gauge.Sent. -/
namespace Go.Proofs.YtpchhfhmopmagaaGreat.Ga
open Go.RowKit Go.Shelf Go.Maps Go.Proofs.YtpchhfhmopmagaaGreat.Wd Go.Proofs.YtpchhfhmopmagaaGreat.Li Go.Proofs.YtpchhfhmopmagaaGreat.Mp Go.Proofs.YtpchhfhmopmagaaGreat.Tr Go.Proofs.YtpchhfhmopmagaaGreat.Tp Go.Proofs.YtpchhfhmopmagaaGreat.Cl Go.Proofs.YtpchhfhmopmagaaGreat.So Go.Proofs.YtpchhfhmopmagaaGreat.Fi Go.Proofs.YtpchhfhmopmagaaGreat.Sw Go.Proofs.YtpchhfhmopmagaaGreat.Qu Go.Proofs.YtpchhfhmopmagaaGreat.Cf Go.Proofs.YtpchhfhmopmagaaGreat.Id Go.Proofs.YtpchhfhmopmagaaGreat.Pa
attribute [local go_sem] Oper.semAt_some run_store_float Lx.opX Rel.oneOk
attribute [local irreducible] Lx.wpX

end Go.Proofs.YtpchhfhmopmagaaGreat.Ga

/- The document's example of gauges; gauge.Over. -/
namespace Go.Proofs.YtpchhfhmopmagaaGreat.Ga
open Go.RowKit Go.Maps Go.Proofs.YtpchhfhmopmagaaGreat.Wd Go.Proofs.YtpchhfhmopmagaaGreat.Li Go.Proofs.YtpchhfhmopmagaaGreat.Mp Go.Proofs.YtpchhfhmopmagaaGreat.Tr Go.Proofs.YtpchhfhmopmagaaGreat.Tp Go.Proofs.YtpchhfhmopmagaaGreat.Cl Go.Proofs.YtpchhfhmopmagaaGreat.So Go.Proofs.YtpchhfhmopmagaaGreat.Fi Go.Proofs.YtpchhfhmopmagaaGreat.Sw Go.Proofs.YtpchhfhmopmagaaGreat.Qu Go.Proofs.YtpchhfhmopmagaaGreat.Cf Go.Proofs.YtpchhfhmopmagaaGreat.Id Go.Proofs.YtpchhfhmopmagaaGreat.Pa Go.Proofs.YtpchhfhmopmagaaGreat.Sr
attribute [local go_sem] run_store_float

end Go.Proofs.YtpchhfhmopmagaaGreat.Ga

/- The law GaugeUnder. -/
namespace Go.Proofs.YtpchhfhmopmagaaGreat.Ga
open Go.RowKit Go.Maps Go.Proofs.YtpchhfhmopmagaaGreat.Wd Go.Proofs.YtpchhfhmopmagaaGreat.Li Go.Proofs.YtpchhfhmopmagaaGreat.Mp Go.Proofs.YtpchhfhmopmagaaGreat.Tr Go.Proofs.YtpchhfhmopmagaaGreat.Tp Go.Proofs.YtpchhfhmopmagaaGreat.Cl Go.Proofs.YtpchhfhmopmagaaGreat.So Go.Proofs.YtpchhfhmopmagaaGreat.Fi Go.Proofs.YtpchhfhmopmagaaGreat.Sw Go.Proofs.YtpchhfhmopmagaaGreat.Qu Go.Proofs.YtpchhfhmopmagaaGreat.Cf Go.Proofs.YtpchhfhmopmagaaGreat.Id Go.Proofs.YtpchhfhmopmagaaGreat.Pa Go.Proofs.YtpchhfhmopmagaaGreat.Sr
attribute [local go_sem] run_store_float Lx.opX Rel.oneOk
attribute [local irreducible] Lx.wpX

end Go.Proofs.YtpchhfhmopmagaaGreat.Ga

/- The law GaugeUnder. -/
namespace Go.Proofs.YtpchhfhmopmagaaGreat.Ga
open Go.RowKit Go.Maps Go.Proofs.YtpchhfhmopmagaaGreat.Wd Go.Proofs.YtpchhfhmopmagaaGreat.Li Go.Proofs.YtpchhfhmopmagaaGreat.Mp Go.Proofs.YtpchhfhmopmagaaGreat.Tr Go.Proofs.YtpchhfhmopmagaaGreat.Tp Go.Proofs.YtpchhfhmopmagaaGreat.Cl Go.Proofs.YtpchhfhmopmagaaGreat.So Go.Proofs.YtpchhfhmopmagaaGreat.Fi Go.Proofs.YtpchhfhmopmagaaGreat.Sw Go.Proofs.YtpchhfhmopmagaaGreat.Qu Go.Proofs.YtpchhfhmopmagaaGreat.Cf Go.Proofs.YtpchhfhmopmagaaGreat.Id Go.Proofs.YtpchhfhmopmagaaGreat.Pa Go.Proofs.YtpchhfhmopmagaaGreat.Sr
attribute [local go_sem] run_store_float Lx.opX Rel.oneOk
attribute [local irreducible] Lx.wpX

theorem chkC_tree {t r d : Int} {l : List Cls} {fs : List F} (h : chkC t r d l fs = 0) : chk l = 0 := by
  unfold chkC at h
  split at h
  · cases h
  · split at h
    · cases h
    · split at h
      · rename_i hn; exact absurd h hn
      · rename_i hn; simpa using hn
set_option maxRecDepth 20000 in
set_option maxHeartbeats 1000000 in
theorem few_c (t r d : Int) (A : Option Addr) (na ca : Nat) (B : Option Addr) (mb cb : Nat) (w : World) : Calls Tryz.prog 10 #[cfV t r d (.slice A na ca) (.slice B mb cb)] w fun e w' => e = .returned (.bool (decide (na ≤ 70) && decide (mb ≤ 70))) ∧ Below w.heap.size w w' := by
  have HB := Lib.hid ((Below.refl w.heap.size w).alloc (Nat.le_refl _) (.cells #[.int .i64 t, .int .i64 r, .int .i64 d, .slice A na ca, .slice B mb cb] 25))
  by_cases h1 : na ≤ 70
  · have h1z : (na : Int) ≤ 70 := by omega
    have d1 : decide ((na : Int) ≤ 70) = true := decide_eq_true h1z
    by_cases h2 : mb ≤ 70
    · have d2 : decide ((mb : Int) ≤ 70) = true := decide_eq_true (by omega)
      have HR := Lib.hid (show (decide (na ≤ 70) && decide (mb ≤ 70)) = true by simp [h1, h2])
      clear h1 h2 h1z
      go_enter Tryz.func10, Tryz.ntmps10
      go_wp2
      go_ret
      exact ⟨by rw [HR.out]; (try simp [d2]); (try rfl), HB.out⟩
    · have d2 : decide ((mb : Int) ≤ 70) = false := decide_eq_false (by omega)
      have HR := Lib.hid (show (decide (na ≤ 70) && decide (mb ≤ 70)) = false by simp [h2])
      clear h1 h2 h1z
      go_enter Tryz.func10, Tryz.ntmps10
      go_wp2
      go_ret
      exact ⟨by rw [HR.out]; (try simp [d2]); (try rfl), HB.out⟩
  · have h1z : ¬ (na : Int) ≤ 70 := by omega
    have d1 : decide ((na : Int) ≤ 70) = false := decide_eq_false h1z
    have HR := Lib.hid (show (decide (na ≤ 70) && decide (mb ≤ 70)) = false by simp [h1])
    clear h1
    go_enter Tryz.func10, Tryz.ntmps10
    go_wp2
    go_ret
    exact ⟨by rw [HR.out]; (try simp [d1]); (try rfl), HB.out⟩
end Go.Proofs.YtpchhfhmopmagaaGreat.Ga
