/- The law's example. -/
import Derived.Test.YtpchhfhmopmagaaGreatTp5
set_option linter.unusedVariables false
set_option linter.unusedSimpArgs false
namespace Go.Proofs.YtpchhfhmopmagaaGreat.Tr
open Go.RowKit Go.Maps Go.Proofs.YtpchhfhmopmagaaGreat.Wd Go.Proofs.YtpchhfhmopmagaaGreat.Li Go.Proofs.YtpchhfhmopmagaaGreat.Mp Go.Proofs.YtpchhfhmopmagaaGreat.Tp Go.Proofs.YtpchhfhmopmagaaGreat.Cl Go.Proofs.YtpchhfhmopmagaaGreat.So Go.Proofs.YtpchhfhmopmagaaGreat.Sw
attribute [local go_sem] run_store_float

theorem row_holds {w : World} {g : Nat} {l : List Cls} {n c : Nat} (h : Row w g 84 (l.flatMap Cls.cells)) (hn : n = l.length) (N : Nat) (hg : g < N) : Holds N w (.slice (some ⟨g, 0, none⟩) n c) l := by
  subst hn
  refine .inr ⟨g, 0, c, rfl, hg, fun j x hx i v hv => ?_⟩
  rw [h.cell, Nat.zero_add]
  exact flat_at cls_len l j x i v hx hv
end Go.Proofs.YtpchhfhmopmagaaGreat.Tr
