/- class.Sorted: the walk. -/
import Derived.Test.YtdoemgccmjddcaaSs10
namespace Go.Proofs.Ytdoemgccmjddcaa.So
open Go.RowKit Go.Shelf Cl Wd Go.Sort

theorem flat_get : ∀ (zs : List Cls) (t : Nat), t < zs.length * 11 → (zs.flatMap Cls.cells)[t]? = some ((Cls.cells zs.toArray[t / 11]!)[t % 11]!)
  | [], t, h => by simp at h
  | x :: zs, t, h => by
    rw [List.flatMap_cons]
    by_cases ht : t < 11
    · rw [List.getElem?_append_left (by rw [cells_len]; exact ht)]
      have e1 : t / 11 = 0 := by omega
      have e2 : t % 11 = t := by omega
      rw [e1, e2]
      have hx : ((x :: zs).toArray)[0]! = x := rfl
      rw [hx]
      rw [List.getElem?_eq_getElem (by rw [cells_len]; exact ht), getElem!_pos _ _ (by rw [cells_len]; exact ht)]
    · rw [List.getElem?_append_right (by rw [cells_len]; omega), cells_len]
      have := flat_get zs (t - 11) (by simp at h; omega)
      rw [this]
      have e1 : t / 11 = (t - 11) / 11 + 1 := by omega
      have e2 : (t - 11) % 11 = t % 11 := by omega
      rw [e1, e2]
      congr 3
      simp [getElem!_def]
theorem owns_holdsK {w : World} {g : Nat} {zs : List Cls} {cur : Array Value} {e : TypeId} (hg : w.heap[g]? = some (.cells cur e (0, 0))) (ht : cur.toList.take (zs.length * 11) = zs.flatMap Cls.cells) : HoldsK Cls.cells 11 w g 0 zs.toArray := by
  intro j hj
  rw [size_flatK] at hj
  have hj' : j < zs.length * 11 := by simpa using hj
  constructor
  · have h1 := flat_get zs j hj'
    rw [← ht, List.getElem?_take, if_pos hj'] at h1
    rw [Nat.zero_add]
    simp only [World.cell?, hg]
    have h2 : cur[j]? = some ((Cls.cells zs.toArray[j / 11]!)[j % 11]!) := by rw [← Array.getElem?_toList]; exact h1
    rw [if_neg (by simp), h2]
    simp [flatK, hj']
  · simp [World.frozen?, hg]

theorem collect_c (Bv : Nat) (sv : Value) (zs : List Cls) (hreach : zs.length ≤ 1048576) (w : World) (hBv : Bv < w.heap.size) (hc : w.cell? ⟨Bv, 0, none⟩ = some sv) (hI : Holds w.heap.size w sv zs) :
    Calls Try.prog 150 #[.func (.func 152) #[] #[.pointer (some ⟨Bv, 0, none⟩)]] w fun e w' =>
      ∃ v, e = .returned v ∧ w'.ownsRow w.heap.size 64 11 v zs.length (zs.flatMap Cls.cells) ∧ Below w.heap.size w w' := by
  have hcon := callsIn_wide.1 (appendSeq_in Fence.wide 10 trivial trivial rfl (by omega) Bv sv zs hreach w hBv hc hI)
  go_enter Try.func150, Try.ntmps150
  go_wp2_with (go_at_call 163; refine hcon.mono ?_; rintro e w' ⟨v, rfl, h1, h2⟩)
  go_ret
  exact ⟨v, rfl, h1, h2⟩

set_option maxRecDepth 100000 in
theorem insertion0 (A : Option Addr) (cap : Nat) (w : World) : Calls Try.prog 170 #[.slice A 0 cap, .int .i64 0, .int .i64 0, .func (.func 122) #[] #[]] w fun e w' => e = .returned (.tuple #[]) ∧ w' = w := by
  go_enter Try.func170, Try.ntmps170
  go_wp2
  go_loopg [8] 0 (fun _ s8 wr => s8 = .int .i64 1 ∧ wr = w)
  case atStart => exact ⟨rfl, rfl⟩
  case round =>
    obtain ⟨rfl, rfl⟩ := hrel
    go_wp2
    go_end0
    exact ⟨rfl, rfl⟩
set_option maxRecDepth 100000 in
theorem stable0 (A : Option Addr) (cap : Nat) (w : World) : Calls Try.prog 164 #[.slice A 0 cap, .int .i64 0, .func (.func 122) #[] #[]] w fun e w' => e = .returned (.tuple #[]) ∧ w' = w := by
  go_enter Try.func164, Try.ntmps164
  go_wp2
  go_loopg [7, 8] 0 (fun _ s7 s8 wr => s7 = .int .i64 0 ∧ s8 = .int .i64 20 ∧ wr = w)
  case atStart => exact ⟨rfl, rfl, rfl⟩
  case round =>
    obtain ⟨rfl, rfl, rfl⟩ := hrel
    go_wp2_with (go_at_call 170; refine (insertion0 _ _ _).mono ?_; rintro e w' ⟨rfl, rfl⟩)
    go_loopg [6, 7, 8, 9] 0 (fun _ s6 s7 s8 s9 wr' => s6 = .int .i64 20 ∧ wr' = w')
    case atStart => exact ⟨rfl, rfl⟩
    case round =>
      obtain ⟨rfl, rfl⟩ := hrel
      go_wp2
      go_end0
      exact ⟨rfl, rfl⟩
theorem sortStable0 (A : Option Addr) (cap : Nat) (w : World) : Calls Try.prog 151 #[.slice A 0 cap, .func (.func 122) #[] #[]] w fun e w' => e = .returned (.tuple #[]) ∧ w' = w := by
  go_enter Try.func151, Try.ntmps151
  go_wp2_with (go_at_call 164; refine (stable0 _ _ _).mono ?_; rintro e w' ⟨rfl, rfl⟩)
  go_end0
  exact ⟨rfl, rfl⟩
end Go.Proofs.Ytdoemgccmjddcaa.So
