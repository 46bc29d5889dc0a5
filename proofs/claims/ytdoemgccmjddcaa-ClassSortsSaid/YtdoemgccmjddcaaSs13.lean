/- class.Find and the reference's: the first class of an id. -/
import Derived.Test.YtdoemgccmjddcaaSs12
namespace Go.Proofs.Ytdoemgccmjddcaa.So
open Go.RowKit Go.Shelf Cl Wd

/-- the first class of the id, or -1 -/
def findC (zs : List Cls) (id : Int) : Int := match zs.findIdx? (fun x => x.id == id) with
  | some i => (i : Int)
  | none => -1
theorem findC_hit {zs : List Cls} {id : Int} {k : Nat} {x : Cls} (hx : zs[k]? = some x) (he : x.id = id) (hn : ∀ j y, j < k → zs[j]? = some y → y.id ≠ id) : findC zs id = k := by
  have : zs.findIdx? (fun x => x.id == id) = some k := by
    obtain ⟨hk, hx'⟩ := List.getElem?_eq_some_iff.1 hx
    rw [List.findIdx?_eq_some_iff_getElem]
    refine ⟨hk, by rw [hx']; simp [he], fun j hj => ?_⟩
    have := hn j zs[j] hj (List.getElem?_eq_getElem (by omega))
    simpa using this
  unfold findC; rw [this]
theorem findC_miss {zs : List Cls} {id : Int} (hn : ∀ (j : Nat) y, zs[j]? = some y → y.id ≠ id) : findC zs id = -1 := by
  have : zs.findIdx? (fun x => x.id == id) = none := by
    rw [List.findIdx?_eq_none_iff]
    intro x hx
    obtain ⟨j, hj⟩ := List.mem_iff_getElem?.1 hx
    simpa using hn j x hj
  unfold findC; rw [this]

set_option maxRecDepth 20000 in
theorem reffind_c (A : Option Addr) (len cap N : Nat) (zs : List Cls) (id : Int) (hlen : zs.length ≤ 1048576) (w : World) (hI : Holds N w (.slice A len cap) zs) :
    Calls Try.prog 51 #[.slice A len cap, .int .i64 id] w fun e w' => e = .returned (.int .i64 (findC zs id)) ∧ w' = w := by
  obtain ⟨rfl, hcs⟩ : len = zs.length ∧ (0 < zs.length → ∃ b off, A = some ⟨b, off, none⟩ ∧ ∀ (j : Nat) (x : Cls), zs[j]? = some x → ∀ (i : Nat) (v : Value), x.cells[i]? = some v → w.cell? ⟨b, off + j * 11 + i, none⟩ = some v) := by
    rcases hI with ⟨e, rfl⟩ | ⟨b, off, c, e, hb, hc⟩
    · cases e; exact ⟨rfl, fun h => absurd h (by simp)⟩
    · obtain ⟨rfl, rfl, rfl⟩ := Value.slice.inj e
      exact ⟨rfl, fun _ => ⟨b, off, rfl, hc⟩⟩
  have HCS := Lib.hid hcs
  clear hcs hI
  go_enter Try.func51, Try.ntmps51
  go_wp2
  go_loopg [5] zs.length (fun kx s5 wr => ∃ k : Nat, s5 = .int .i64 k ∧ k ≤ zs.length ∧ zs.length - k ≤ kx ∧ wr = w ∧ Hid (∀ j y, j < k → zs[j]? = some y → y.id ≠ id))
  case atStart => exact ⟨0, rfl, by omega, by omega, rfl, Lib.hid (fun j y h => absurd h (by omega))⟩
  case round =>
    obtain ⟨k, rfl, hk, hkx, rfl, HN⟩ := hrel
    by_cases hlt : k < zs.length
    · have hltz : (k : Int) < (zs.length : Int) := by omega
      obtain ⟨x, hx⟩ : ∃ x, zs[k]? = some x := ⟨zs[k], List.getElem?_eq_getElem hlt⟩
      obtain ⟨b, off, rfl, hc⟩ := HCS.out (by omega)
      have c0 : wr.cell? ⟨b, off + k * 11, none⟩ = some (.int .i64 x.id) := hc k x hx 0 _ rfl
      have HX := Lib.hid hx
      clear hx hc
      by_cases he : x.id = id
      · go_wp2
        go_ret
        exact ⟨by rw [findC_hit HX.out he HN.out]; rfl, rfl⟩
      · go_wp2
        go_roundg (zs.length - (k + 1))
        case measure => omega
        case rel => exact ⟨k + 1, by go_num, by omega, by omega, rfl, Lib.hid (fun j y hj hy => by
            by_cases e : j = k
            · subst e; rw [HX.out] at hy; cases hy; exact he
            · exact HN.out j y (by omega) hy)⟩
    · have hltz : ¬ (k : Int) < (zs.length : Int) := by omega
      go_wp2
      go_ret
      exact ⟨by rw [findC_miss (fun j y hy => HN.out j y (by have := (List.getElem?_eq_some_iff.1 hy).1; omega) hy)]; rfl, rfl⟩

theorem found_c (x : Cls) (id : Int) (B : Nat) (w : World) (hB : B < w.heap.size) (hc : w.cell? ⟨B, 0, none⟩ = some (.int .i64 id)) :
    Calls Try.prog 125 #[x.agg, .pointer (some ⟨B, 0, none⟩)] w fun e w' => e = .returned (.bool (x.id == id)) ∧ Below w.heap.size w w' := by
  have hne : ¬ w.heap.size = B := by omega
  unfold Cls.agg
  go_enter Try.func125, Try.ntmps125
  go_wp2
  go_ret
  exact ⟨rfl, (Below.refl _ w).alloc (Nat.le_refl _) _⟩
end Go.Proofs.Ytdoemgccmjddcaa.So
