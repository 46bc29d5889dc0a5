/- The law's example. -/
import Derived.Test.YtdankjhjmaehiaaTp5
namespace Go.Proofs.Ytdankjhjmaehiaa.Tr
open Go.RowKit Go.Maps Go.Proofs.Ytdankjhjmaehiaa.Wd Go.Proofs.Ytdankjhjmaehiaa.Li Go.Proofs.Ytdankjhjmaehiaa.Mp Go.Proofs.Ytdankjhjmaehiaa.Tp Go.Proofs.Ytdankjhjmaehiaa.Cl Go.Proofs.Ytdankjhjmaehiaa.So Go.Proofs.Ytdankjhjmaehiaa.Sw
attribute [local go_sem] run_store_float

def exL : Nat → List Cls
  | 0 => [exK 1 0, exK 1 0, exK 1 0, exK 1 0]
  | 1 => [exK 1 0, exK 1 0, exK 1 0, exK 1 0]
  | 2 => [exK 1 0, exK 2 0, exK 1 0, exK 1 0]
  | 3 => [exK 1 0, exK 2 0, exK 3 0, exK 1 0]
  | _ => [exK 1 0, exK 2 0, exK 3 0, exK 4 2]
def exR (k : Nat) : List Value := (exL k).flatMap Cls.cells
def exI : Nat → Value
  | 0 => .int .i64 0
  | 1 => .int .i64 1
  | 2 => .int .i64 2
  | 3 => .int .i64 3
  | _ => .int .i64 4
theorem row_holds {w : World} {g : Nat} {l : List Cls} {n c : Nat} (h : Row w g 60 (l.flatMap Cls.cells)) (hn : n = l.length) (N : Nat) (hg : g < N) : Holds N w (.slice (some ⟨g, 0, none⟩) n c) l := by
  subst hn
  refine .inr ⟨g, 0, c, rfl, hg, fun j x hx i v hv => ?_⟩
  rw [h.cell, Nat.zero_add]
  exact flat_at cls_len l j x i v hx hv
end Go.Proofs.Ytdankjhjmaehiaa.Tr
