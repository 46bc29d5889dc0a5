/- Filters: their cells, and which may be: pure. -/
import Derived.Test.YtpchhfhmopmagaaGreatLi
set_option linter.unusedVariables false
set_option linter.unusedSimpArgs false
namespace Go.Proofs.YtpchhfhmopmagaaGreat.Fi
open Go.RowKit

def InI (x : Int) : Prop := -9223372036854775808 ≤ x ∧ x < 9223372036854775808
def InU (x : Nat) : Prop := x < 18446744073709551616
/-- a filter's fields -/
structure F where
  id : Int
  prio : Int
  ver : Int
  sh : Nat
  sl : Nat
  dh : Nat
  dl : Nat
  sn : Int
  dn : Int
  proto : Int
  s0 : Int
  s1 : Int
  d0 : Int
  d1 : Int
  leaf : Int
  ok : (InI id ∧ InI prio ∧ InI ver) ∧ (InU sh ∧ InU sl ∧ InU dh ∧ InU dl) ∧ (InI sn ∧ InI dn ∧ InI proto) ∧ (InI s0 ∧ InI s1 ∧ InI d0 ∧ InI d1 ∧ InI leaf)
  deriving DecidableEq
instance : Inhabited F := ⟨⟨0, 0, 0, 0, 0, 0, 0, 0, 0, 0, 0, 0, 0, 0, 0, by unfold InI InU; omega⟩⟩
def F.cells (f : F) : List Value := [.int .i64 f.id, .int .i64 f.prio, .int .i64 f.ver, .int .u64 f.sh, .int .u64 f.sl, .int .u64 f.dh, .int .u64 f.dl, .int .i64 f.sn, .int .i64 f.dn, .int .i64 f.proto, .int .i64 f.s0, .int .i64 f.s1, .int .i64 f.d0, .int .i64 f.d1, .int .i64 f.leaf]
abbrev F.agg (f : F) : Value := .agg #[.int .i64 f.id, .int .i64 f.prio, .int .i64 f.ver, .int .u64 f.sh, .int .u64 f.sl, .int .u64 f.dh, .int .u64 f.dl, .int .i64 f.sn, .int .i64 f.dn, .int .i64 f.proto, .int .i64 f.s0, .int .i64 f.s1, .int .i64 f.d0, .int .i64 f.d1, .int .i64 f.leaf]
theorem cells_len (f : F) : f.cells.length = 15 := rfl
theorem cells_one (f : F) : ∀ v ∈ f.cells, v.oneCell' = true := by
  intro v hv; simp [F.cells] at hv; rcases hv with rfl | rfl | rfl | rfl | rfl | rfl | rfl | rfl | rfl | rfl | rfl | rfl | rfl | rfl | rfl <;> rfl

/-- bits of a version's address -/
def bitsV (v : Int) : Int := if v = 4 then 32 else if v = 6 then 128 else 0
def addrR (v : Int) (hi lo : Nat) : Bool := decide (v = 6) || (decide (v = 4) && decide (hi = 0) && decide (lo < 4294967296))
def prefixR (v : Int) (hi lo : Nat) (n : Int) : Bool := decide (0 ≤ n) && decide (n ≤ bitsV v) && ((decide (v = 0) && decide (hi = 0) && decide (lo = 0)) || (decide (v ≠ 0) && addrR v hi lo))
def spanR (a b : Int) : Bool := decide (0 ≤ a) && decide (a ≤ b) && decide (b ≤ 65535)
/-- the questions, in order -/
def qs (f : F) : Nat → Bool
  | 0 => decide (1 ≤ f.id) && decide (f.id ≤ 65535)
  | 1 => decide (0 ≤ f.prio) && decide (f.prio ≤ 65535)
  | 2 => decide (f.ver = 0) || decide (0 < bitsV f.ver)
  | 3 => prefixR f.ver f.sh f.sl f.sn && prefixR f.ver f.dh f.dl f.dn
  | 4 => decide (-1 ≤ f.proto) && decide (f.proto ≤ 255)
  | 5 => spanR f.s0 f.s1 && spanR f.d0 f.d1
  | _ => decide (1 ≤ f.leaf) && decide (f.leaf ≤ 65535)
def qe : Nat → Int
  | 0 => 2
  | 1 => 14
  | 2 => 22
  | 3 => 6
  | 4 => 7
  | 5 => 6
  | _ => 15
def rightF (f : F) : Int := if qs f 0 = false then 2 else if qs f 1 = false then 14 else if qs f 2 = false then 22 else if qs f 3 = false then 6 else if qs f 4 = false then 7 else if qs f 5 = false then 6 else if qs f 6 = false then 15 else 0
/-- why a filter may not stand where it stands -/
def errF (l : List F) (j : Nat) : Int := match l[j]? with
  | none => 0
  | some c => if rightF c ≠ 0 then rightF c else if (l.take j).any (fun y => decide (y.id = c.id)) then 9 else 0
def scanF (l : List F) : Nat → Int
  | 0 => 0
  | k + 1 => if scanF l k ≠ 0 then scanF l k else errF l k
def checkF (l : List F) : Int := if 64 < l.length then 3 else scanF l l.length
theorem errF_bad {l : List F} {k : Nat} {c : F} (hc : l[k]? = some c) (h : rightF c ≠ 0) : errF l k = rightF c := by
  unfold errF; rw [hc]; simp only; rw [if_pos h]
theorem errF_is {l : List F} {k : Nat} {c : F} (hc : l[k]? = some c) (h : rightF c = 0) : errF l k = if (l.take k).any (fun y => decide (y.id = c.id)) then 9 else 0 := by
  unfold errF; rw [hc]; simp only; rw [if_neg (by simpa using h)]
theorem scanF_succ {l : List F} {k : Nat} (h : scanF l k = 0) : scanF l (k + 1) = errF l k := by unfold scanF; rw [if_neg (by simpa using h)]
theorem scanF_hit {l : List F} {k : Nat} (h : scanF l k = 0) (he : errF l k ≠ 0) : ∀ n, k < n → scanF l n = errF l k
  | 0, h0 => absurd h0 (by omega)
  | n + 1, h0 => by
    by_cases hk : k = n
    · subst hk; exact scanF_succ h
    · have := scanF_hit h he n (by omega)
      unfold scanF; rw [this, if_pos he]
end Go.Proofs.YtpchhfhmopmagaaGreat.Fi
