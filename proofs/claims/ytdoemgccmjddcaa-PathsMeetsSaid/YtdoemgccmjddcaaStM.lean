/- Stats, the small ones: None, below, Same, Ratio, IsNaN, Abs, bits and back. Stats: the loops. Stats: Even and Off, the program's and the document's. Stats: Off, the program's and the document's. Stats: the document's Off; the examples; the law StatsTells. -/
import Derived.Test.YtdoemgccmjddcaaProg
import Derived.Test.YtdoemgccmjddcaaFo
import Derived.Test.YtdoemgccmjddcaaWd
/- Stats, the small ones: None, below, Same, Ratio, IsNaN, Abs, bits and back. -/
namespace Go.Proofs.Ytdoemgccmjddcaa.St
open Go.RowKit Fl Wd
attribute [local go_sem] run_store_float

/-- what a float call comes to that leaves the world alone but for draws -/
def RetF (w : World) (c : Nat) (e : Ending) (w' : World) : Prop := ∃ r n, e = .returned (.float .f64 r) ∧ cf r = c ∧ r < 18446744073709551616 ∧ w' = w.drewN n

theorem fbits_lt (op : BinOp) (x y : Nat) (w : World) : fbits op x y w < 18446744073709551616 := by
  unfold fbits
  cases h : floatBits op .f64 x y with
  | some r => have := floatBits_wf h; simpa [Lit.wf] using this
  | none =>
    show drawnNan _ w < _
    unfold drawnNan Question.cut
    simp only []
    generalize w.tape w.drawn _ = t
    have h1 : t / 2 % (2 ^ 52 - 1) < 2 ^ 52 - 1 := Nat.mod_lt _ (by decide)
    have h2 : t % 2 = 0 ∨ t % 2 = 1 := by omega
    rcases h2 with h2 | h2 <;> rw [h2] <;> omega

theorem none_any (x : Nat) (w : World) : Calls Try.prog 102 #[.float .f64 x] w fun e w' => e = .returned (.bool (nan x)) ∧ w = w' := by
  go_enter Try.func102, Try.ntmps102
  go_wp2
  go_ret
  exact ⟨by simp [feq_self], rfl⟩
theorem isnan_any (x : Nat) (w : World) : Calls Try.prog 107 #[.float .f64 x] w fun e w' => e = .returned (.bool (nan x)) ∧ w = w' := by
  go_enter Try.func107, Try.ntmps107
  go_wp2
  go_ret
  exact ⟨by simp [feq_self], rfl⟩

/-- is it below 0, by its sign? -/
def neg (x : Nat) : Bool := !nan x && x / 9223372036854775808 % 2 == 1
theorem fq0 : floatBits .quo .f64 4607182418800017408 0 = some 9218868437227405312 := by decide +kernel
theorem fq1 : floatBits .quo .f64 4607182418800017408 9223372036854775808 = some 18442240474082181120 := by decide +kernel
theorem feq_zero {x : Nat} (hx : x < 18446744073709551616) : feq x 0 = true ↔ x = 0 ∨ x = 9223372036854775808 := by
  have h0 : nan 0 = false := by decide +kernel
  have h1 : nan 9223372036854775808 = false := by decide +kernel
  constructor
  · intro h
    unfold feq at h
    simp only [Bool.and_eq_true, decide_eq_true_eq] at h
    obtain ⟨_, h⟩ := h
    unfold key at h
    simp at h
    split at h <;> omega
  · rintro (rfl | rfl) <;> decide +kernel
theorem flt_zero {x : Nat} (hx : x < 18446744073709551616) (hz : feq x 0 = false) : flt x 0 = neg x := by
  have h0 : nan 0 = false := by decide +kernel
  cases hn : nan x with
  | true => simp [flt, neg, hn]
  | false =>
    have hz' : ¬ (x = 0 ∨ x = 9223372036854775808) := fun h => by rw [(feq_zero hx).2 h] at hz; cases hz
    unfold flt neg key
    simp only [hn, h0, Bool.not_false, Bool.true_and]
    have a1 : x / 9223372036854775808 % 2 = 0 ∨ x / 9223372036854775808 % 2 = 1 := by omega
    rcases a1 with a | a <;> simp [a] <;> omega

theorem below_any (x : Nat) (hx : x < 18446744073709551616) (w : World) : Calls Try.prog 103 #[.float .f64 x] w fun e w' => e = .returned (.bool (neg x)) ∧ w = w' := by
  cases hz : feq x 0 with
  | true =>
    have hl : flt x 0 = false := by
      rcases (feq_zero hx).1 hz with rfl | rfl <;> decide +kernel
    have hq : ∃ r, floatBits .quo .f64 4607182418800017408 x = some r ∧ flt r 0 = neg x := by
      rcases (feq_zero hx).1 hz with rfl | rfl
      · exact ⟨_, fq0, by decide +kernel⟩
      · exact ⟨_, fq1, by decide +kernel⟩
    obtain ⟨r, hr, hrn⟩ := hq
    have hb : ∀ w, fbits .quo 4607182418800017408 x w = r := fun w => by simp [fbits, hr]
    have hc : fcount .quo 4607182418800017408 x = 0 := by simp [fcount, hr]
    clear hr
    go_enter Try.func103, Try.ntmps103
    go_wp2
    go_ret
    exact ⟨by simp, rfl⟩
  | false =>
    have hl := flt_zero hx hz
    cases hn : neg x with
    | true =>
      rw [hn] at hl
      go_enter Try.func103, Try.ntmps103
      go_wp2
      go_ret
      exact ⟨rfl, rfl⟩
    | false =>
      rw [hn] at hl
      go_enter Try.func103, Try.ntmps103
      go_wp2
      go_ret
      exact ⟨rfl, rfl⟩

/-- the same float, NaNs taken together -/
def same (a b : Nat) : Bool := cf a == cf b
theorem key_inj {a b : Nat} (ha : a < 18446744073709551616) (hb : b < 18446744073709551616) (h : key a = key b) (hs : (a / 9223372036854775808 % 2 == 1) = (b / 9223372036854775808 % 2 == 1)) : a = b := by
  have a1 : a / 9223372036854775808 % 2 = 0 ∨ a / 9223372036854775808 % 2 = 1 := by omega
  have a2 : b / 9223372036854775808 % 2 = 0 ∨ b / 9223372036854775808 % 2 = 1 := by omega
  unfold key at h
  rcases a1 with a1 | a1 <;> rcases a2 with a2 | a2 <;> simp [a1, a2] at h hs <;> omega
theorem cf_num {a : Nat} (h : nan a = false) : cf a = a := by simp [cf, h]
theorem cf_nan {a : Nat} (h : nan a = true) : cf a = nanC := by simp [cf, h]

theorem same_any (a b : Nat) (ha : a < 18446744073709551616) (hb : b < 18446744073709551616) (w : World) :
    Calls Try.prog 21 #[.float .f64 a, .float .f64 b] w fun e w' => e = .returned (.bool (same a b)) ∧ w = w' := by
  have ca := none_any a
  have cb := none_any b
  have da := below_any a ha
  have db := below_any b hb
  have Ha := Lib.hid ca; have Hb := Lib.hid cb; have Da := Lib.hid da; have Db := Lib.hid db
  clear ca cb da db
  cases hna : nan a with
  | true =>
    rw [hna] at Ha
    cases hnb : nan b with
    | true =>
      rw [hnb] at Hb
      have e : same a b = true := by simp [same, cf_nan hna, cf_nan hnb]
      rw [e]
      clear e
      go_enter Try.func21, Try.ntmps21
      go_wp2_with fail
      refine (Ha.out _).mono ?_; rintro e w' ⟨rfl, rfl⟩
      go_wp2_with fail
      refine (Ha.out _).mono ?_; rintro e w' ⟨rfl, rfl⟩
      go_wp2_with fail
      refine (Hb.out _).mono ?_; rintro e w' ⟨rfl, rfl⟩
      go_wp2_with fail
      go_ret
      exact ⟨rfl, rfl⟩
    | false =>
      rw [hnb] at Hb
      have e : same a b = false := by
        simp only [same, cf_nan hna, cf_num hnb, beq_eq_false_iff_ne]
        intro h; rw [← h, nan_nanC] at hnb; cases hnb
      rw [e]
      clear e
      go_enter Try.func21, Try.ntmps21
      go_wp2_with fail
      refine (Ha.out _).mono ?_; rintro e w' ⟨rfl, rfl⟩
      go_wp2_with fail
      refine (Ha.out _).mono ?_; rintro e w' ⟨rfl, rfl⟩
      go_wp2_with fail
      refine (Hb.out _).mono ?_; rintro e w' ⟨rfl, rfl⟩
      go_wp2_with fail
      go_ret
      exact ⟨rfl, rfl⟩
  | false =>
    rw [hna] at Ha
    cases hnb : nan b with
    | true =>
      rw [hnb] at Hb
      have e : same a b = false := by
        simp only [same, cf_num hna, cf_nan hnb, beq_eq_false_iff_ne]
        intro h; rw [h, nan_nanC] at hna; cases hna
      rw [e]
      clear e
      go_enter Try.func21, Try.ntmps21
      go_wp2_with fail
      refine (Ha.out _).mono ?_; rintro e w' ⟨rfl, rfl⟩
      go_wp2_with fail
      refine (Hb.out _).mono ?_; rintro e w' ⟨rfl, rfl⟩
      go_wp2_with fail
      refine (Ha.out _).mono ?_; rintro e w' ⟨rfl, rfl⟩
      go_wp2_with fail
      go_ret
      exact ⟨rfl, rfl⟩
    | false =>
      rw [hnb] at Hb
      cases hq : feq a b with
      | false =>
        have e : same a b = false := by
          simp only [same, cf_num hna, cf_num hnb, beq_eq_false_iff_ne]
          rintro rfl; rw [feq_self, hna] at hq; cases hq
        rw [e]
        clear e
        go_enter Try.func21, Try.ntmps21
        go_wp2_with fail
        refine (Ha.out _).mono ?_; rintro e w' ⟨rfl, rfl⟩
        go_wp2_with fail
        refine (Hb.out _).mono ?_; rintro e w' ⟨rfl, rfl⟩
        go_wp2_with fail
        go_ret
        exact ⟨rfl, rfl⟩
      | true =>
        have e : (neg a == neg b) = same a b := by
          have hk : key a = key b := by unfold feq at hq; simp [hna, hnb] at hq; exact hq
          simp only [same, cf_num hna, cf_num hnb, neg, hna, hnb, Bool.not_false, Bool.true_and]
          rw [Bool.eq_iff_iff, beq_iff_eq, beq_iff_eq]
          exact ⟨fun h => key_inj ha hb hk h, fun h => by rw [h]⟩
        have E := Lib.hid e
        clear e
        go_enter Try.func21, Try.ntmps21
        go_wp2_with fail
        refine (Ha.out _).mono ?_; rintro e w' ⟨rfl, rfl⟩
        go_wp2_with fail
        refine (Hb.out _).mono ?_; rintro e w' ⟨rfl, rfl⟩
        go_wp2_with fail
        refine (Da.out _).mono ?_; rintro e w' ⟨rfl, rfl⟩
        go_wp2_with fail
        refine (Db.out _).mono ?_; rintro e w' ⟨rfl, rfl⟩
        go_wp2_with fail
        go_ret
        exact ⟨by rw [← E.out]; rfl, rfl⟩

theorem ratio_any (a b : Int) (w : World) : Calls Try.prog 22 #[.int .i64 a, .int .i64 b] w fun e w' =>
    e = .returned (.float .f64 (fbits .quo (floatOfInt .f64 a) (floatOfInt .f64 b) w)) ∧ w.drewN (fcount .quo (floatOfInt .f64 a) (floatOfInt .f64 b)) = w' := by
  go_enter Try.func22, Try.ntmps22
  go_wp2
  go_ret
  exact ⟨rfl, rfl⟩

@[go_sem] theorem run_frombits (n : Int) (w : World) : (callFunc 101 #[.int .u64 n]).run Try.prog w = .ok (.value (.float .f64 n.toNat)) w := by
  rw [run_callFunc_extern Try.func101 (by kernel_rfl) (by kernel_rfl) (by kernel_rfl) (e := Extern.MathFloatBits.float64frombits) (by kernel_rfl)]; rfl
@[go_sem] theorem run_tobits (n : Nat) (w : World) : (callFunc 144 #[.float .f64 n]).run Try.prog w = .ok (.value (.int .u64 (n : Int))) w := by
  rw [run_callFunc_extern Try.func144 (by kernel_rfl) (by kernel_rfl) (by kernel_rfl) (e := Extern.MathFloatBits.float64bits) (by kernel_rfl)]; rfl

/-- the bits without their sign -/
def absB (x : Nat) : Nat := x % 9223372036854775808
theorem abs_bits (x : Nat) (hx : x < 18446744073709551616) : (bits .andNot .u64 (x : Int) 9223372036854775808).toNat = absB x := by
  have h := u64_andNot_nat x 9223372036854775808 (by omega) (by omega)
  have e : ((9223372036854775808 : Nat) : Int) = 9223372036854775808 := rfl
  rw [← e, h]
  have e2 : 18446744073709551615 - 9223372036854775808 = 2 ^ 63 - 1 := by decide
  rw [e2, Nat.and_two_pow_sub_one_eq_mod]
  rfl
theorem abs_any (x : Nat) (hx : x < 18446744073709551616) (w : World) : Calls Try.prog 106 #[.float .f64 x] w fun e w' => e = .returned (.float .f64 (absB x)) ∧ w = w' := by
  go_enter Try.func106, Try.ntmps106
  go_wp2
  go_ret
  exact ⟨by rw [← abs_bits x hx]; rfl, rfl⟩

end Go.Proofs.Ytdoemgccmjddcaa.St

/- Stats: the loops. -/
namespace Go.Proofs.Ytdoemgccmjddcaa.St
open Go.RowKit Fl Wd
attribute [local go_sem] run_store_float

def F (xs : List Nat) : List Value := xs.map (Value.float .f64)
theorem info45 : (Try.prog.info? 45).map (fun i => (i.zero, i.size, i.bytes)) = some (some (.float .f64 0), 1, 8) := by kernel_rfl

/-- the law's own 'floats': bits as floats, in new memory -/
def OwnF (B : Nat) (xs : List Nat) (e : Ending) (w w' : World) : Prop := ∃ A c, e = .returned (.slice A xs.length c) ∧ Sl w' w'.heap.size 1 A xs.length (F xs) ∧ Below B w w'
set_option maxRecDepth 20000 in
set_option maxHeartbeats 400000 in
theorem lawfloats_any (A : Option Addr) (c : Nat) (xs : List Nat) (hx : ∀ x ∈ xs, x < 18446744073709551616) (hn : xs.length ≤ 50) (w : World) (ha : Sl w w.heap.size 1 A xs.length (xs.map fun x : Nat => Value.int .u64 (x : Int))) :
    Calls Try.prog 20 #[.slice A xs.length c] w fun e w' => OwnF w.heap.size xs e w w' := by
  obtain ⟨i0, hi, hz0, hz1, hz2⟩ := info_parts info45
  go_enter Try.func20, Try.ntmps20
  go_wp2
  go_loopw [3, 5, 8] (fun v _ i wr => ∃ k : Nat, k ≤ xs.length ∧ i = .int .i64 k ∧ wr.ownsRow w.heap.size 45 1 v k (F (xs.take k)) ∧ Below w.heap.size w wr)
    (fun _ _ i _ => xs.length - (intOf i).toNat)
  case atStart => exact ⟨0, Nat.zero_le _, rfl, by simpa [F] using World.ownsRow_nil _ _ _ _, Below.refl _ _⟩
  case round =>
    obtain ⟨k, hk, rfl, hown, hb⟩ := hrel
    by_cases hlt : k < xs.length
    · obtain ⟨a, u, rfl, hab, hu, hc⟩ := (ha.below hb).cell1 hlt
      simp only [List.getElem?_map] at hu
      obtain ⟨x, hxk, rfl⟩ := Option.map_eq_some_iff.1 hu
      have Hxk := Lib.hid hxk; have Hx := Lib.hid hx; have Hown := Lib.hid hown
      clear hu ha hxk hx hown
      go_wp2_with ((at_builtin; go_must (refine wpList_push (by rfl) _ _ _ (by rfl) w.heap.size 45 i0 (.float .f64 0) 1 8 Try.underlying42 hi hz0 hz1 hz2 rfl (by decide) (by decide) _ _ rfl (by simp [Value.oneCell']) _ _ _ Hown.out (by rfl) (by rfl) (by omega) hb.size ?_); intro A' cap w1 hown1 hb1))
      go_roundw
      case rel => exact ⟨k + 1, by omega, by go_num, by unfold F; rw [map_take_succ _ Hxk.out]; exact hown1, hb.trans hb1⟩
      case measure => simp [intOf]; omega
    · have hkl : k = xs.length := by omega
      subst hkl
      rw [List.take_length] at hown
      obtain ⟨A', c', rfl⟩ := own_slice (by decide) hown
      have Hown := Lib.hid hown; clear hown
      go_wp2
      go_ret
      exact ⟨A', c', rfl, Sl.of_own Hown.out, hb⟩

/-- a sum, NaNs taken together -/
def tot (xs : List Nat) : Nat := xs.foldl (fun s x => fop .add s (cf x)) 0
theorem tot_succ {xs : List Nat} {k x : Nat} (h : xs[k]? = some x) : tot (xs.take (k + 1)) = fop .add (tot (xs.take k)) (cf x) := by
  unfold tot; rw [List.take_add_one, h, List.foldl_append]; rfl
theorem cf_zero : cf 0 = 0 := by decide +kernel

set_option maxRecDepth 20000 in
set_option maxHeartbeats 400000 in
theorem total_any (A : Option Addr) (c : Nat) (xs : List Nat) (hn : xs.length ≤ 1000) (w : World) (B : Nat) (ha : Sl w B 1 A xs.length (F xs)) :
    Calls Try.prog 104 #[.slice A xs.length c] w fun e w' => RetF w (tot xs) e w' := by
  go_enter Try.func104, Try.ntmps104
  go_wp2
  go_loopw [3, 5, 8] (fun v _ i wr => ∃ k r n : Nat, k ≤ xs.length ∧ i = .int .i64 k ∧ v = .float .f64 r ∧ cf r = tot (xs.take k) ∧ r < 18446744073709551616 ∧ wr = w.drewN n)
    (fun _ _ i _ => xs.length - (intOf i).toNat)
  case atStart => exact ⟨0, 0, 0, Nat.zero_le _, rfl, rfl, by rw [List.take_zero]; exact cf_zero, by omega, rfl⟩
  case round =>
    obtain ⟨k, r, n, hk, rfl, rfl, hr, hr2, rfl⟩ := hrel
    by_cases hlt : k < xs.length
    · obtain ⟨a, u, rfl, hab, hu, hc⟩ := ha.cell1 hlt
      unfold F at hu
      simp only [List.getElem?_map] at hu
      obtain ⟨x, hxk, rfl⟩ := Option.map_eq_some_iff.1 hu
      have Hxk := Lib.hid hxk; have Hr := Lib.hid hr
      clear hu ha hxk hr
      go_wp2
      go_roundw
      case rel => exact ⟨k + 1, _, _, by omega, by go_num, rfl, by rw [cf_fbits, Hr.out, tot_succ Hxk.out], fbits_lt _ _ _ _, rfl⟩
      case measure => simp [intOf]; omega
    · have hkl : k = xs.length := by omega
      subst hkl
      rw [List.take_length] at hr
      have Hr := Lib.hid hr; clear hr
      go_wp2
      go_ret
      exact ⟨r, n, rfl, Hr.out, hr2, rfl⟩

def I (xs : List Int) : List Value := xs.map (Value.int .i64)
def fl (xs : List Int) : List Nat := xs.map (floatOfInt .f64)
theorem fi_lt (n : Int) : floatOfInt .f64 n < 18446744073709551616 := by have := floatOfInt_wf .f64 n; simpa [Lit.wf] using this

set_option maxRecDepth 20000 in
set_option maxHeartbeats 400000 in
theorem floats_any (A : Option Addr) (c : Nat) (xs : List Int) (hn : xs.length ≤ 1000) (w : World) (ha : Sl w w.heap.size 1 A xs.length (I xs)) :
    Calls Try.prog 105 #[.slice A xs.length c] w fun e w' => ∃ g, e = .returned (.slice (some ⟨g, 0, none⟩) xs.length xs.length) ∧ Row w' g 45 (F (fl xs)) ∧ Below w.heap.size w w' := by
  obtain ⟨i0, hi, hz0, hz1, hz2⟩ := info_parts info45
  have hmk := fun wx => run_make1 (P := Try.prog) 42 45 i0 (.float .f64 0) Try.underlying42 hi hz0 hz1 rfl .i64 .i64 xs.length (by omega) (by omega) wx
  clear hi hz0 hz1 hz2
  go_enter Try.func105, Try.ntmps105
  go_wp2
  go_loopw [4, 10] (fun _ i wr => ∃ k : Nat, k ≤ xs.length ∧ i = .int .i64 k ∧ Row wr w.heap.size 45 ((xs.take k).map (fun n => Value.float .f64 (floatOfInt .f64 n)) ++ List.replicate (xs.length - k) (.float .f64 0)) ∧ Below w.heap.size w wr)
    (fun _ i _ => xs.length - (intOf i).toNat)
  case atStart => exact ⟨0, Nat.zero_le _, rfl, by simpa using row_new_rep w _ _ _, (Below.refl _ w).alloc (Nat.le_refl _) _⟩
  case round =>
    obtain ⟨k, hk, rfl, hrow, hb⟩ := hrel
    by_cases hlt : k < xs.length
    · obtain ⟨a, u, rfl, hab, hu, hc⟩ := (ha.below hb).cell1 hlt
      unfold I at hu
      simp only [List.getElem?_map] at hu
      obtain ⟨x, hxk, rfl⟩ := Option.map_eq_some_iff.1 hu
      have hcell := hrow.cell k
      have hfz := hrow.frozen k
      have hlen : ((xs.take k).map (fun n => Value.float .f64 (floatOfInt .f64 n)) ++ List.replicate (xs.length - k) (Value.float .f64 0))[k]? = some (.float .f64 0) := by
        rw [List.getElem?_append_right (by rw [List.length_map, List.length_take]; omega)]
        rw [List.getElem?_replicate, if_pos (by rw [List.length_map, List.length_take]; omega)]
      rw [hlen] at hcell
      have Hxk := Lib.hid hxk; have Hrow := Lib.hid hrow
      clear hu ha hxk hrow hlen hmk
      go_wp2
      go_roundw
      case rel =>
        refine ⟨k + 1, by omega, by go_num, ?_, hb.setCell (p := ⟨w.heap.size, k, none⟩) (Nat.le_refl _) _⟩
        have := Hrow.out.set k (.float .f64 (floatOfInt .f64 x))
        rwa [set_fill (fun n => Value.float .f64 (floatOfInt .f64 n)) (.float .f64 0) Hxk.out hlt (Nat.le_refl _)] at this
      case measure => simp [intOf]; omega
    · have hkl : k = xs.length := by omega
      subst hkl
      rw [List.take_length, Nat.sub_self, List.replicate_zero, List.append_nil] at hrow
      have Hrow := Lib.hid hrow; clear hrow
      go_wp2
      go_ret
      exact ⟨w.heap.size, rfl, by unfold F fl; rw [List.map_map]; exact Hrow.out, hb⟩

def meanS (xs : List Int) : Nat := fop .quo (tot (fl xs)) (cf (floatOfInt .f64 xs.length))
/-- what a float call comes to that may make memory -/
def RetB (w : World) (c : Nat) (e : Ending) (w' : World) : Prop := ∃ r, e = .returned (.float .f64 r) ∧ cf r = c ∧ r < 18446744073709551616 ∧ Below w.heap.size w w'

set_option maxRecDepth 20000 in
set_option maxHeartbeats 400000 in
theorem mean_any (A : Option Addr) (c : Nat) (xs : List Int) (hn : xs.length ≤ 1000) (w : World) (ha : Sl w w.heap.size 1 A xs.length (I xs)) :
    Calls Try.prog 24 #[.slice A xs.length c] w fun e w' => RetB w (meanS xs) e w' := by
  have hfl : (fl xs).length = xs.length := by unfold fl; rw [List.length_map]
  have hc := floats_any A c xs hn w ha
  have Hc := Lib.hid hc; have Hfl := Lib.hid hfl; clear hc hfl ha
  go_enter Try.func24, Try.ntmps24
  go_wp2_with fail
  refine Hc.out.mono ?_; rintro e w1 ⟨g, rfl, hrow, hb⟩
  have Hrow := Lib.hid hrow; clear hrow
  go_wp2_with fail
  have hsl := (Row.sl (n := (fl xs).length) Hrow.out (by unfold F; rw [List.length_map]))
  have ht := total_any (some ⟨g, 0, none⟩) xs.length (fl xs) (by rw [Hfl.out]; exact hn) w1 _ hsl
  rw [Hfl.out] at ht
  refine ht.mono ?_; rintro e w' ⟨r, n, rfl, hr, hr2, rfl⟩
  have Hr := Lib.hid hr; clear hr ht hsl
  go_wp2_with fail
  go_ret
  exact ⟨_, rfl, by rw [cf_fbits, Hr.out]; rfl, fbits_lt _ _ _ _, below_drewN hb _⟩

set_option maxRecDepth 20000 in
set_option maxHeartbeats 400000 in
theorem refmean_any (A : Option Addr) (c : Nat) (xs : List Int) (hn : xs.length ≤ 1000) (w : World) (B : Nat) (ha : Sl w B 1 A xs.length (I xs)) :
    Calls Try.prog 25 #[.slice A xs.length c] w fun e w' => RetF w (meanS xs) e w' := by
  go_enter Try.func25, Try.ntmps25
  go_wp2
  go_loopw [3, 4] (fun v i wr => ∃ k r n : Nat, k ≤ xs.length ∧ i = .int .i64 k ∧ v = .float .f64 r ∧ cf r = tot ((fl xs).take k) ∧ r < 18446744073709551616 ∧ wr = w.drewN n)
    (fun _ i _ => xs.length - (intOf i).toNat)
  case atStart => exact ⟨0, 0, 0, Nat.zero_le _, rfl, rfl, by rw [List.take_zero]; exact cf_zero, by omega, rfl⟩
  case round =>
    obtain ⟨k, r, n, hk, rfl, rfl, hr, hr2, rfl⟩ := hrel
    by_cases hlt : k < xs.length
    · obtain ⟨a, u, rfl, hab, hu, hc⟩ := ha.cell1 hlt
      unfold I at hu
      simp only [List.getElem?_map] at hu
      obtain ⟨x, hxk, rfl⟩ := Option.map_eq_some_iff.1 hu
      have Hxk : Hid ((fl xs)[k]? = some (floatOfInt .f64 x)) := Lib.hid (by unfold fl; rw [List.getElem?_map, hxk]; rfl)
      have Hr := Lib.hid hr
      clear hu ha hxk hr
      go_wp2
      go_roundw
      case rel => exact ⟨k + 1, _, _, by omega, by go_num, rfl, by rw [cf_fbits, Hr.out, tot_succ Hxk.out], fbits_lt _ _ _ _, rfl⟩
      case measure => simp [intOf]; omega
    · have hkl : k = xs.length := by omega
      subst hkl
      have hfl : (fl xs).length = xs.length := by unfold fl; rw [List.length_map]
      rw [← hfl, List.take_length] at hr
      have Hr := Lib.hid hr; clear hr hfl
      go_wp2
      go_ret
      exact ⟨_, _, rfl, by rw [cf_fbits, Hr.out]; rfl, fbits_lt _ _ _ _, rfl⟩

end Go.Proofs.Ytdoemgccmjddcaa.St

/- Stats: Even and Off, the program's and the document's. -/
namespace Go.Proofs.Ytdoemgccmjddcaa.St
open Go.RowKit Fl Wd
attribute [local go_sem] run_store_float

def sq (x : Nat) : Nat := fop .mul (cf x) (cf x)
def evenS (xs : List Nat) : Nat := fop .quo (fop .mul (tot xs) (tot xs)) (fop .mul (cf (floatOfInt .f64 xs.length)) (tot (xs.map sq)))

theorem tot_cf (ys zs : List Nat) (h : ys.map cf = zs.map cf) : tot ys = tot zs := by
  have key : ∀ (l : List Nat) (s : Nat), l.foldl (fun s x => fop .add s (cf x)) s = (l.map cf).foldl (fun s x => fop .add s x) s := by
    intro l
    induction l with
    | nil => intro s; rfl
    | cons a l ih => intro s; simp only [List.foldl_cons, List.map_cons]; exact ih _
  unfold tot; rw [key, key, h]

set_option maxRecDepth 20000 in
set_option maxHeartbeats 400000 in
theorem even_any (A : Option Addr) (c : Nat) (xs : List Nat) (hn : xs.length ≤ 1000) (w : World) (ha : Sl w w.heap.size 1 A xs.length (F xs)) :
    Calls Try.prog 26 #[.slice A xs.length c] w fun e w' => RetB w (evenS xs) e w' := by
  obtain ⟨i0, hi, hz0, hz1, hz2⟩ := info_parts info45
  have hmk := fun wx => run_make1 (P := Try.prog) 42 45 i0 (.float .f64 0) Try.underlying42 hi hz0 hz1 rfl .i64 .i64 xs.length (by omega) (by omega) wx
  clear hi hz0 hz1 hz2
  go_enter Try.func26, Try.ntmps26
  go_wp2
  go_loopw [4, 5, 12] (fun _ _ i wr => ∃ (k : Nat) (ys : List Nat), k ≤ xs.length ∧ i = .int .i64 k ∧ ys.length = k ∧ ys.map cf = (xs.take k).map sq ∧ Row wr w.heap.size 45 (F ys ++ List.replicate (xs.length - k) (.float .f64 0)) ∧ Below w.heap.size w wr)
    (fun _ _ i _ => xs.length - (intOf i).toNat)
  case atStart => exact ⟨0, [], Nat.zero_le _, rfl, rfl, rfl, by simpa [F] using row_new_rep w _ _ _, (Below.refl _ w).alloc (Nat.le_refl _) _⟩
  case round =>
    obtain ⟨k, ys, hk, rfl, hyl, hy, hrow, hb⟩ := hrel
    by_cases hlt : k < xs.length
    · obtain ⟨a, u, rfl, hab, hu, hc⟩ := (ha.below hb).cell1 hlt
      unfold F at hu
      simp only [List.getElem?_map] at hu
      obtain ⟨x, hxk, rfl⟩ := Option.map_eq_some_iff.1 hu
      have hcell := hrow.cell k
      have hfz := hrow.frozen k
      have hyl2 : (F ys).length = k := by unfold F; rw [List.length_map]; exact hyl
      have hlen : (F ys ++ List.replicate (xs.length - k) (Value.float .f64 0))[k]? = some (.float .f64 0) := by
        rw [List.getElem?_append_right (by omega), hyl2]
        rw [List.getElem?_replicate, if_pos (by omega)]
      rw [hlen] at hcell
      have Hxk := Lib.hid hxk; have Hrow := Lib.hid hrow; have Hy := Lib.hid hy; have Hyl := Lib.hid hyl; have Hyl2 := Lib.hid hyl2
      clear hu ha hxk hrow hlen hmk hy hyl hyl2
      go_wp2
      go_roundw
      case rel =>
        refine ⟨k + 1, ys ++ [fbits .mul x x wr], by omega, by go_num, by rw [List.length_append, Hyl.out]; rfl, ?_, ?_, below_drewN (hb.setCell (p := ⟨w.heap.size, k, none⟩) (Nat.le_refl _) _) _⟩
        · rw [List.map_append, Hy.out, List.take_add_one, Hxk.out, List.map_append]
          show _ ++ [cf (fbits .mul x x wr)] = _ ++ [sq x]
          rw [cf_fbits]; rfl
        · have := Hrow.out.set k (.float .f64 (fbits .mul x x wr))
          obtain ⟨m, hm⟩ : ∃ m, xs.length - k = m + 1 := ⟨xs.length - k - 1, by omega⟩
          have hm' : xs.length - (k + 1) = m := by omega
          rw [List.set_append_right _ _ (by rw [Hyl2.out]; omega), Hyl2.out, Nat.sub_self, hm, List.replicate_succ, List.set_cons_zero] at this
          rw [hm']
          unfold F at this ⊢
          rw [List.map_append, List.append_assoc]
          exact this
      case measure => simp [intOf]; omega
    · have hkl : k = xs.length := by omega
      subst hkl
      rw [List.take_length] at hy
      rw [Nat.sub_self, List.replicate_zero, List.append_nil] at hrow
      have Hrow := Lib.hid hrow; have Hy := Lib.hid hy; have Hyl := Lib.hid hyl
      have Ha := Lib.hid ha
      clear hrow hy hyl ha hmk
      go_wp2_with fail
      refine (total_any A c xs hn wr _ (Ha.out.below hb)).mono ?_; rintro e w' ⟨r, n, rfl, hr, hr2, rfl⟩
      have Hr := Lib.hid hr; clear hr
      go_wp2_with fail
      have hsl := (Row.sl (n := ys.length) (Hrow.out.drewN (n + fcount .mul r r)) (by unfold F; rw [List.length_map]))
      have ht := total_any (some ⟨w.heap.size, 0, none⟩) xs.length ys (by rw [Hyl.out]; exact hn) _ _ hsl
      rw [Hyl.out] at ht
      refine ht.mono ?_; rintro e w' ⟨r2, n2, rfl, hr2', hr2'', rfl⟩
      have Hr2 := Lib.hid hr2'; clear hr2' ht hsl
      go_wp2_with fail
      go_ret
      exact ⟨_, rfl, by rw [cf_fbits, cf_fbits, cf_fbits, Hr.out, Hr2.out, tot_cf ys (xs.map sq) (by rw [Hy.out, List.map_map]; exact List.map_congr_left fun x _ => by simp only [Function.comp_apply, sq, cf_fop])]; rfl, fbits_lt _ _ _ _, below_drewN hb _⟩

set_option maxRecDepth 20000 in
set_option maxHeartbeats 400000 in
theorem refeven_any (A : Option Addr) (c : Nat) (xs : List Nat) (hn : xs.length ≤ 1000) (w : World) (B : Nat) (ha : Sl w B 1 A xs.length (F xs)) :
    Calls Try.prog 27 #[.slice A xs.length c] w fun e w' => RetF w (evenS xs) e w' := by
  go_enter Try.func27, Try.ntmps27
  go_wp2
  go_loopw [3, 4, 5] (fun v s i wr => ∃ k r q n : Nat, k ≤ xs.length ∧ i = .int .i64 k ∧ v = .float .f64 r ∧ cf r = tot (xs.take k) ∧ r < 18446744073709551616 ∧ s = .float .f64 q ∧ cf q = tot ((xs.map sq).take k) ∧ q < 18446744073709551616 ∧ wr = w.drewN n)
    (fun _ _ i _ => xs.length - (intOf i).toNat)
  case atStart => exact ⟨0, 0, 0, 0, Nat.zero_le _, rfl, rfl, by rw [List.take_zero]; exact cf_zero, by omega, rfl, by rw [List.take_zero]; exact cf_zero, by omega, rfl⟩
  case round =>
    obtain ⟨k, r, q, n, hk, rfl, rfl, hr, hr2, rfl, hq, hq2, rfl⟩ := hrel
    by_cases hlt : k < xs.length
    · obtain ⟨a, u, rfl, hab, hu, hc⟩ := ha.cell1 hlt
      unfold F at hu
      simp only [List.getElem?_map] at hu
      obtain ⟨x, hxk, rfl⟩ := Option.map_eq_some_iff.1 hu
      have Hxk := Lib.hid hxk; have Hr := Lib.hid hr; have Hq := Lib.hid hq
      have Hsk : Hid ((xs.map sq)[k]? = some (sq x)) := Lib.hid (by rw [List.getElem?_map, hxk]; rfl)
      have i0 : (0 : Int) ≤ (k : Int) := by omega
      have i1 : (k : Int) < (xs.length : Int) := by omega
      clear hu ha hxk hr hq
      go_wp2
      go_region
      all_goals go_wp2
      all_goals
        go_roundw
        case rel => exact ⟨k + 1, _, _, _, by omega, by go_num, rfl, by rw [cf_fbits, Hr.out, tot_succ Hxk.out], fbits_lt _ _ _ _, rfl, by rw [cf_fbits, cf_fbits, Hq.out, tot_succ Hsk.out]; unfold sq; rw [cf_fop], fbits_lt _ _ _ _, rfl⟩
        case measure => simp [intOf]; omega
    · have hkl : k = xs.length := by omega
      subst hkl
      rw [List.take_length] at hr
      have hsl : (xs.map sq).length = xs.length := List.length_map ..
      rw [← hsl, List.take_length] at hq
      have Hr := Lib.hid hr; have Hq := Lib.hid hq; clear hr hq hsl
      go_wp2
      go_ret
      exact ⟨_, _, rfl, by rw [cf_fbits, cf_fbits, cf_fbits, Hr.out, Hq.out]; rfl, fbits_lt _ _ _ _, rfl⟩

end Go.Proofs.Ytdoemgccmjddcaa.St

/- Stats: Off, the program's and the document's. -/
namespace Go.Proofs.Ytdoemgccmjddcaa.St
open Go.RowKit Fl Wd
attribute [local go_sem] run_store_float

/-- how far off, of differences -/
def dif (p : Nat × Nat) : Nat := fop .sub (cf p.1) (cf p.2)
def mo (m d : Nat) : Nat := if nan d then m else Nat.max m (absB d)
def offD (ds : List Nat) : Nat := if ds.any nan then nanC else ds.foldl mo 0
def offS (xs ys : List Nat) : Nat := offD ((xs.zip ys).map dif)

theorem run_max_pos {P : Program} (ts : Array TypeId) (ty : TypeId) (x y : Nat) (hx : x ≤ 9218868437227405312) (hy : y ≤ 9218868437227405312) (w : World) :
    (Builtin.max_ ts ty #[.float .f64 x, .float .f64 y]).run P w = .ok (.float .f64 (Nat.max x y)) w := by
  have hnx : nan x = false := (nan_false_iff x).2 (by omega)
  have hny : nan y = false := (nan_false_iff y).2 (by omega)
  have ho := order_key hnx hny
  have e1 : key x = (x : Int) := by unfold key; rw [if_neg (by omega)]; omega
  have e2 : key y = (y : Int) := by unfold key; rw [if_neg (by omega)]; omega
  rw [e1, e2] at ho
  have ho' : FloatKind.f64.format.order x y = _ := ho
  by_cases h1 : x < y
  · rw [compare_lt (by omega)] at ho'
    have : Nat.max x y = y := Nat.max_eq_right (by omega)
    simp [Builtin.max_, Builtin.max2, ho', this]
  · by_cases h2 : y < x
    · rw [compare_gt (by omega)] at ho'
      have : Nat.max x y = x := Nat.max_eq_left (by omega)
      simp [Builtin.max_, Builtin.max2, ho', this]
    · have : x = y := by omega
      subst this
      have e3 : compare (x : Int) (x : Int) = .eq := by simp [compare, compareOfLessAndEq]
      rw [e3] at ho'
      have : Nat.max x x = x := Nat.max_self x
      simp [Builtin.max_, Builtin.max2, ho', this]
theorem nan_absB (x : Nat) : nan (absB x) = nan x := by
  unfold absB
  have h1 := nan_iff x
  have h2 := nan_iff (x % 9223372036854775808)
  rw [Nat.mod_mod] at h2
  rw [Bool.eq_iff_iff, h1, h2]
theorem absB_le {x : Nat} (h : nan x = false) : absB x ≤ 9218868437227405312 := (nan_false_iff x).1 h
theorem absB_cf {x : Nat} (h : nan x = false) : absB (cf x) = absB x := by rw [cf_num h]
theorem mo_le (m d : Nat) (h : m ≤ 9218868437227405312) : mo m d ≤ 9218868437227405312 := by
  unfold mo; split
  · exact h
  · rename_i hn
    have := absB_le (x := d) (by simpa using hn)
    exact Nat.max_le.2 ⟨h, this⟩

theorem isnan_is (x : Nat) (b : Bool) (h : nan x = b) (w : World) : Calls Try.prog 107 #[.float .f64 x] w fun e w' => e = .returned (.bool b) ∧ w = w' := h ▸ isnan_any x w
theorem nan_fbits (op : BinOp) (x y : Nat) (w : World) : nan (fbits op x y w) = nan (fop op (cf x) (cf y)) := by rw [← nan_cf, cf_fbits]
theorem fbits_num {op : BinOp} {x y : Nat} (h : nan (fop op (cf x) (cf y)) = false) (w : World) : fbits op x y w = fop op (cf x) (cf y) := by
  rw [← nan_fbits op x y w] at h
  rw [← cf_num h, cf_fbits]
theorem absB_lt (x : Nat) : absB x < 18446744073709551616 := by unfold absB; omega

theorem zip_at {xs ys : List Nat} {k x y : Nat} (hx : xs[k]? = some x) (hy : ys[k]? = some y) : ((xs.zip ys).map dif)[k]? = some (fop .sub (cf x) (cf y)) := by
  rw [List.getElem?_map, (List.getElem?_zip_eq_some (z := (x, y))).2 ⟨hx, hy⟩]; rfl
theorem fold_succ {ds : List Nat} {k d : Nat} (h : ds[k]? = some d) : (ds.take (k + 1)).foldl mo 0 = mo ((ds.take k).foldl mo 0) d := by
  rw [List.take_add_one, h, List.foldl_append]; rfl
theorem any_succ {ds : List Nat} {k d : Nat} (h : ds[k]? = some d) : (ds.take (k + 1)).any nan = ((ds.take k).any nan || nan d) := by
  rw [List.take_add_one, h, List.any_append]; simp
theorem any_of_at {ds : List Nat} {k d : Nat} (h : ds[k]? = some d) (hn : nan d = true) : ds.any nan = true :=
  List.any_eq_true.2 ⟨d, List.mem_of_getElem? h, hn⟩

set_option maxRecDepth 20000 in
set_option maxHeartbeats 400000 in
theorem off_any (A B : Option Addr) (c d : Nat) (xs ys : List Nat) (hn : xs.length ≤ 1000) (hm : ys.length ≤ 1000) (w : World) (K : Nat) (ha : Sl w K 1 A xs.length (F xs)) (hb : Sl w K 1 B ys.length (F ys)) :
    Calls Try.prog 28 #[.slice A xs.length c, .slice B ys.length d] w fun e w' => RetF w (offS xs ys) e w' := by
  go_enter Try.func28, Try.ntmps28
  go_wp2
  · go_loopw [4, 5, 7, 13] (fun v m _ i wr => ∃ k r n : Nat, k ≤ ys.length ∧ i = .int .i64 k ∧ v = .float .f64 0 ∧ m = .float .f64 r ∧ r = (((xs.zip ys).map dif).take k).foldl mo 0 ∧ (((xs.zip ys).map dif).take k).any nan = false ∧ r ≤ 9218868437227405312 ∧ wr = w.drewN n)
      (fun _ _ _ i _ => ys.length - (intOf i).toNat)
    case atStart => exact ⟨0, 0, 0, Nat.zero_le _, rfl, rfl, rfl, rfl, rfl, by omega, rfl⟩
    case round =>
      obtain ⟨k, r, n, hk, rfl, rfl, rfl, hr, hany, hr2, rfl⟩ := hrel
      by_cases hlt : k < ys.length
      · obtain ⟨a, u, rfl, hab, hu, hc⟩ := ha.cell1 (k := k) (by omega)
        obtain ⟨b, v, rfl, hbb, hv, hc2⟩ := hb.cell1 (k := k) (by omega)
        unfold F at hu hv
        simp only [List.getElem?_map] at hu hv
        obtain ⟨x, hxk, rfl⟩ := Option.map_eq_some_iff.1 hu
        obtain ⟨y, hyk, rfl⟩ := Option.map_eq_some_iff.1 hv
        have Hd := Lib.hid (zip_at hxk hyk)
        have Hr := Lib.hid hr; have Hany := Lib.hid hany
        have i0 : (0 : Int) ≤ (k : Int) := by omega
        have i1 : (k : Int) < (xs.length : Int) := by omega
        have i2 : (k : Int) < (ys.length : Int) := by omega
        clear hu hv ha hb hxk hyk hr hany
        cases hnd : nan (fop .sub (cf x) (cf y)) with
        | true =>
          have Hnd := Lib.hid hnd; clear hnd
          go_wp2_with fail
          go_region_with (first | (go_at_call 106; refine (abs_any _ (fbits_lt _ _ _ _) _).mono ?_; rintro e w' ⟨rfl, rfl⟩))
          all_goals
            go_wp2_with fail
            refine (isnan_is _ true (by rw [nan_absB, nan_fbits, Hnd.out]) _).mono ?_
            rintro e w' ⟨rfl, rfl⟩
            go_wp2_with fail
            go_ret
            refine ⟨_, _, rfl, ?_, absB_lt _, rfl⟩
            rw [cf_nan (by rw [nan_absB, nan_fbits, Hnd.out])]
            unfold offS offD
            rw [if_pos (any_of_at Hd.out Hnd.out)]
        | false =>
          have hfb := fbits_num (op := .sub) (x := x) (y := y) hnd
          have hmo : Hid (mo r (fop .sub (cf x) (cf y)) = Nat.max r (absB (fop .sub (cf x) (cf y)))) := Lib.hid (by unfold mo; rw [if_neg (by rw [hnd]; decide)])
          have hda := absB_le hnd
          have hDl : fop .sub (cf x) (cf y) < 18446744073709551616 := by rw [← hfb w]; exact fbits_lt _ _ _ _
          have Hnd := Lib.hid hnd; clear hnd
          generalize fop .sub (cf x) (cf y) = D at *
          have hmx := fun wx => run_max_pos (P := Try.prog) #[45, 45] 45 r (absB D) hr2 hda wx
          have hle : Nat.max r (absB D) ≤ 9218868437227405312 := Nat.max_le.2 ⟨hr2, hda⟩
          generalize hM : Nat.max r (absB D) = M at *
          have HM := Lib.hid hM; clear hM
          go_wp2_with fail
          go_region_with (first | (go_at_call 106; refine (abs_any _ hDl _).mono ?_; rintro e w' ⟨rfl, rfl⟩))
          all_goals
            go_wp2_with fail
            refine (isnan_is _ false (by rw [nan_absB, Hnd.out]) _).mono ?_
            rintro e w' ⟨rfl, rfl⟩
            go_wp2_with fail
            go_roundw
            case rel => exact ⟨k + 1, _, _, by omega, by go_num, rfl, rfl, by rw [fold_succ Hd.out, ← Hr.out, hmo.out], by rw [any_succ Hd.out, Hany.out, Hnd.out]; rfl, hle, rfl⟩
            case measure => simp [intOf]; omega
      · have hkl : k = ys.length := by omega
        subst hkl
        have hz : ((xs.zip ys).map dif).length = ys.length := by rw [List.length_map, List.length_zip]; omega
        rw [← hz, List.take_length] at hr hany
        have Hr := Lib.hid hr; have Hany := Lib.hid hany; clear hr hany hz
        go_wp2_with fail
        go_ret
        refine ⟨_, _, rfl, ?_, by omega, rfl⟩
        unfold offS offD
        rw [if_neg (by rw [Hany.out]; decide), ← Hr.out, cf_num ((nan_false_iff r).2 (by omega))]
  · go_loopw [4, 5, 7, 13] (fun v m _ i wr => ∃ k r n : Nat, k ≤ xs.length ∧ i = .int .i64 k ∧ v = .float .f64 0 ∧ m = .float .f64 r ∧ r = (((xs.zip ys).map dif).take k).foldl mo 0 ∧ (((xs.zip ys).map dif).take k).any nan = false ∧ r ≤ 9218868437227405312 ∧ wr = w.drewN n)
      (fun _ _ _ i _ => xs.length - (intOf i).toNat)
    case atStart => exact ⟨0, 0, 0, Nat.zero_le _, rfl, rfl, rfl, rfl, rfl, by omega, rfl⟩
    case round =>
      obtain ⟨k, r, n, hk, rfl, rfl, rfl, hr, hany, hr2, rfl⟩ := hrel
      by_cases hlt : k < xs.length
      · obtain ⟨a, u, rfl, hab, hu, hc⟩ := ha.cell1 (k := k) (by omega)
        obtain ⟨b, v, rfl, hbb, hv, hc2⟩ := hb.cell1 (k := k) (by omega)
        unfold F at hu hv
        simp only [List.getElem?_map] at hu hv
        obtain ⟨x, hxk, rfl⟩ := Option.map_eq_some_iff.1 hu
        obtain ⟨y, hyk, rfl⟩ := Option.map_eq_some_iff.1 hv
        have Hd := Lib.hid (zip_at hxk hyk)
        have Hr := Lib.hid hr; have Hany := Lib.hid hany
        have i0 : (0 : Int) ≤ (k : Int) := by omega
        have i1 : (k : Int) < (xs.length : Int) := by omega
        have i2 : (k : Int) < (ys.length : Int) := by omega
        clear hu hv ha hb hxk hyk hr hany
        cases hnd : nan (fop .sub (cf x) (cf y)) with
        | true =>
          have Hnd := Lib.hid hnd; clear hnd
          go_wp2_with fail
          go_region_with (first | (go_at_call 106; refine (abs_any _ (fbits_lt _ _ _ _) _).mono ?_; rintro e w' ⟨rfl, rfl⟩))
          all_goals
            go_wp2_with fail
            refine (isnan_is _ true (by rw [nan_absB, nan_fbits, Hnd.out]) _).mono ?_
            rintro e w' ⟨rfl, rfl⟩
            go_wp2_with fail
            go_ret
            refine ⟨_, _, rfl, ?_, absB_lt _, rfl⟩
            rw [cf_nan (by rw [nan_absB, nan_fbits, Hnd.out])]
            unfold offS offD
            rw [if_pos (any_of_at Hd.out Hnd.out)]
        | false =>
          have hfb := fbits_num (op := .sub) (x := x) (y := y) hnd
          have hmo : Hid (mo r (fop .sub (cf x) (cf y)) = Nat.max r (absB (fop .sub (cf x) (cf y)))) := Lib.hid (by unfold mo; rw [if_neg (by rw [hnd]; decide)])
          have hda := absB_le hnd
          have hDl : fop .sub (cf x) (cf y) < 18446744073709551616 := by rw [← hfb w]; exact fbits_lt _ _ _ _
          have Hnd := Lib.hid hnd; clear hnd
          generalize fop .sub (cf x) (cf y) = D at *
          have hmx := fun wx => run_max_pos (P := Try.prog) #[45, 45] 45 r (absB D) hr2 hda wx
          have hle : Nat.max r (absB D) ≤ 9218868437227405312 := Nat.max_le.2 ⟨hr2, hda⟩
          generalize hM : Nat.max r (absB D) = M at *
          have HM := Lib.hid hM; clear hM
          go_wp2_with fail
          go_region_with (first | (go_at_call 106; refine (abs_any _ hDl _).mono ?_; rintro e w' ⟨rfl, rfl⟩))
          all_goals
            go_wp2_with fail
            refine (isnan_is _ false (by rw [nan_absB, Hnd.out]) _).mono ?_
            rintro e w' ⟨rfl, rfl⟩
            go_wp2_with fail
            go_roundw
            case rel => exact ⟨k + 1, _, _, by omega, by go_num, rfl, rfl, by rw [fold_succ Hd.out, ← Hr.out, hmo.out], by rw [any_succ Hd.out, Hany.out, Hnd.out]; rfl, hle, rfl⟩
            case measure => simp [intOf]; omega
      · have hkl : k = xs.length := by omega
        subst hkl
        have hz : ((xs.zip ys).map dif).length = xs.length := by rw [List.length_map, List.length_zip]; omega
        rw [← hz, List.take_length] at hr hany
        have Hr := Lib.hid hr; have Hany := Lib.hid hany; clear hr hany hz
        go_wp2_with fail
        go_ret
        refine ⟨_, _, rfl, ?_, by omega, rfl⟩
        unfold offS offD
        rw [if_neg (by rw [Hany.out]; decide), ← Hr.out, cf_num ((nan_false_iff r).2 (by omega))]

end Go.Proofs.Ytdoemgccmjddcaa.St

/- Stats: the document's Off; the examples; the law StatsTells. -/
namespace Go.Proofs.Ytdoemgccmjddcaa.St
open Go.RowKit Fl Wd

theorem negFloat_eq {x : Nat} (h1 : 9223372036854775808 ≤ x) (h2 : x < 18446744073709551616) : Op.negFloat .f64 x = absB x := by
  unfold Op.negFloat absB
  have e : 2 ^ (FloatKind.f64.format.exponentBits + FloatKind.f64.format.fractionBits) = 2 ^ 63 := by decide +kernel
  rw [e]
  have : x = 2 ^ 63 + x % 9223372036854775808 := by omega
  generalize x % 9223372036854775808 = y at *
  have hy : y < 2 ^ 63 := by omega
  subst this
  have ho : 2 ^ 63 + y = 2 ^ 63 ||| y := by
    have := Nat.two_pow_add_eq_or_of_lt hy 1
    simpa using this
  rw [ho]
  apply Nat.eq_of_testBit_eq
  intro i
  rw [Nat.testBit_xor, Nat.testBit_or, Nat.testBit_two_pow]
  by_cases hi : 63 = i
  · subst hi
    have : y.testBit 63 = false := Nat.testBit_lt_two_pow hy
    simp [this]
  · simp [hi]
theorem flt_neg {x : Nat} (hx : x < 18446744073709551616) (h : flt x 0 = true) : 9223372036854775808 ≤ x := by
  unfold flt key at h
  simp at h
  obtain ⟨_, h⟩ := h
  split at h <;> omega
theorem flt_abs {r x : Nat} (hr : r ≤ 9218868437227405312) (hx : nan x = false) (h0 : flt x 0 = false) (hl : x < 18446744073709551616) : flt r x = decide (r < absB x) ∧ (r < absB x → x = absB x) := by
  have hnr : nan r = false := (nan_false_iff r).2 (by omega)
  have hn0 : nan 0 = false := by decide +kernel
  unfold flt at *
  rw [hx, hn0] at h0
  rw [hx, hnr]
  simp only [Bool.not_false, Bool.true_and, decide_eq_false_iff_not] at *
  unfold key absB at *
  by_cases hs : x / 9223372036854775808 % 2 = 1
  · rw [if_pos hs] at h0 ⊢
    rw [if_neg (by omega)]
    simp at h0
    refine ⟨by rw [decide_eq_decide]; omega, by omega⟩
  · rw [if_neg hs] at h0 ⊢
    rw [if_neg (by omega)]
    refine ⟨by rw [decide_eq_decide]; omega, by omega⟩
theorem flt_pos {r x : Nat} (hr : r ≤ 9218868437227405312) (hx : x ≤ 9218868437227405312) : flt r x = decide (r < x) := by
  have h1 : nan r = false := (nan_false_iff r).2 (by omega)
  have h2 : nan x = false := (nan_false_iff x).2 (by omega)
  unfold flt; rw [h1, h2]
  unfold key; rw [if_neg (by omega), if_neg (by omega)]
  simp only [Bool.not_false, Bool.true_and]
  rw [decide_eq_decide]; omega
theorem feq_num {x : Nat} (h : nan x = false) : feq x x = true := by rw [feq_self, h]; rfl
theorem flt_nanl {x y : Nat} (h : nan x = true) : flt x y = false := by unfold flt; rw [h]; rfl
theorem flt_nanr {x y : Nat} (h : nan y = true) : flt x y = false := by unfold flt; rw [h]; simp

theorem mo_cases (m d : Nat) : mo m d = if nan d then m else if m < absB d then absB d else m := by
  unfold mo; split
  · rfl
  · split
    · exact Nat.max_eq_right (by omega)
    · exact Nat.max_eq_left (by omega)

/-- 'most / 0 * 0' is no number. -/
theorem most_nan {r : Nat} (hr : r ≤ 9218868437227405312) (w w2 : World) : cf (fbits .mul (fbits .quo r 0 w) 0 w2) = nanC := by
  rw [cf_fbits, cf_fbits, cf_zero]
  have e0 : Ieee.double.read 0 = .number false 0 (-1074) := by decide +kernel
  by_cases h0 : r = 0
  · subst h0; decide +kernel
  · have hq : fop .quo (cf r) 0 = 9218868437227405312 ∨ fop .quo (cf r) 0 = nanC := by
      rw [cf_num ((nan_false_iff r).2 (by omega))]
      by_cases hi : r = 9218868437227405312
      · subst hi; left; decide +kernel
      · obtain ⟨m, k, e, hm⟩ := read_num (b := r) (by omega)
        have hm0 : m ≠ 0 := by
          rintro rfl
          have : mag (r % 9223372036854775808) = 0 := by rw [← hm]; omega
          have h2 := mag_lt (a := 0) (b := r % 9223372036854775808) (by omega)
          rw [mag_zero] at h2; omega
        left
        have hs : (r / 9223372036854775808 % 2 == 1) = false := by
          have : r / 9223372036854775808 % 2 = 0 := by omega
          rw [this]; rfl
        unfold fop floatBits
        simp only [FloatKind.format, Ieee.Format.div, e, e0, hs, Ieee.Datum.quotient, if_true, if_neg hm0]
        decide +kernel
    rcases hq with hq | hq <;> rw [hq] <;> decide +kernel

set_option maxRecDepth 20000 in
set_option maxHeartbeats 1000000 in
theorem refoff_any (A B : Option Addr) (c d : Nat) (xs ys : List Nat) (hn : xs.length ≤ 1000) (_hm : ys.length ≤ 1000) (w : World) (K : Nat) (ha : Sl w K 1 A xs.length (F xs)) (hb : Sl w K 1 B ys.length (F ys)) :
    Calls Try.prog 23 #[.slice A xs.length c, .slice B ys.length d] w fun e w' => RetF w (offS xs ys) e w' := by
  have hz : ((xs.zip ys).map dif).length = min xs.length ys.length := by rw [List.length_map, List.length_zip]
  have Hz := Lib.hid hz; clear hz
  go_enter Try.func23, Try.ntmps23
  go_wp2
  go_loopw [5, 6, 7, 8] (fun m f i _ wr => ∃ (k r n : Nat) (z : Bool), k ≤ xs.length ∧ k ≤ ys.length ∧ i = .int .i64 k ∧ m = .float .f64 r ∧ r = (((xs.zip ys).map dif).take k).foldl mo 0 ∧ f = .bool z ∧ z = (((xs.zip ys).map dif).take k).any nan ∧ r ≤ 9218868437227405312 ∧ wr = w.drewN n)
    (fun _ _ i _ _ => xs.length - (intOf i).toNat)
  case atStart => exact ⟨0, 0, 0, false, Nat.zero_le _, Nat.zero_le _, rfl, rfl, rfl, rfl, rfl, by omega, rfl⟩
  case round =>
    obtain ⟨k, r, n, z, hk, hk2, rfl, rfl, hr, rfl, hany, hr2, rfl⟩ := hrel
    by_cases hlt : k < xs.length ∧ k < ys.length
    · obtain ⟨hltx, hlty⟩ := hlt
      obtain ⟨a, u, rfl, hab, hu, hc⟩ := ha.cell1 (k := k) (by omega)
      obtain ⟨b, v, rfl, hbb, hv, hc2⟩ := hb.cell1 (k := k) (by omega)
      unfold F at hu hv
      simp only [List.getElem?_map] at hu hv
      obtain ⟨x, hxk, rfl⟩ := Option.map_eq_some_iff.1 hu
      obtain ⟨y, hyk, rfl⟩ := Option.map_eq_some_iff.1 hv
      have Hd := Lib.hid (zip_at hxk hyk)
      have Hr := Lib.hid hr; have Hany := Lib.hid hany
      have i0 : (0 : Int) ≤ (k : Int) := by omega
      have i1 : (k : Int) < (xs.length : Int) := by omega
      have i2 : (k : Int) < (ys.length : Int) := by omega
      clear hu hv ha hb hxk hyk hr hany
      cases hnd : nan (fop .sub (cf x) (cf y)) with
      | true =>
        have f1 : ∀ W, flt (fbits .sub x y W) 0 = false := fun W => flt_nanl (by rw [nan_fbits, hnd])
        have f2 : ∀ W, flt r (fbits .sub x y W) = false := fun W => flt_nanr (by rw [nan_fbits, hnd])
        have f3 : ∀ W, feq (fbits .sub x y W) (fbits .sub x y W) = false := fun W => by rw [feq_self, nan_fbits, hnd]; rfl
        have Hnd := Lib.hid hnd; clear hnd
        cases z <;>
          (go_wp2
           go_region
           all_goals
             go_wp2
             go_roundw
             case rel => exact ⟨k + 1, _, _, _, by omega, by omega, by go_num, rfl, by rw [fold_succ Hd.out, ← Hr.out, mo_cases, if_pos Hnd.out], rfl, by rw [any_succ Hd.out, ← Hany.out, Hnd.out]; rfl, hr2, rfl⟩
             case measure => simp [intOf]; omega)
      | false =>
        have hfb := fbits_num (op := .sub) (x := x) (y := y) hnd
        have hmo : Hid (mo r (fop .sub (cf x) (cf y)) = if r < absB (fop .sub (cf x) (cf y)) then absB (fop .sub (cf x) (cf y)) else r) := Lib.hid (by rw [mo_cases, if_neg (by rw [hnd]; decide)])
        have hda := absB_le hnd
        have hDl : fop .sub (cf x) (cf y) < 18446744073709551616 := by rw [← hfb w]; exact fbits_lt _ _ _ _
        have hna := nan_absB (fop .sub (cf x) (cf y))
        rw [hnd] at hna
        have hf1 := feq_num hnd
        have hf2 := feq_num hna
        have hf3 := flt_pos hr2 hda
        cases h0 : flt (fop .sub (cf x) (cf y)) 0 with
        | true =>
          have Hng := Lib.hid (negFloat_eq (flt_neg hDl h0) hDl)
          rw [← Hng.out] at hf2
          have Hnd := Lib.hid hnd; clear hnd hna
          generalize fop .sub (cf x) (cf y) = D at *
          generalize absB D = E at *
          generalize hG : Op.negFloat .f64 D = G at *
          by_cases hrE : r < E
          · have hg3 : flt r G = true := by rw [Hng.out, hf3, decide_eq_true hrE]
            have HrE := Lib.hid hrE; clear hrE hf3
            cases z <;>
              (go_wp2
               go_region
               all_goals
                 go_wp2
                 go_roundw
                 case rel => exact ⟨k + 1, _, _, _, by omega, by omega, by go_num, rfl, by rw [fold_succ Hd.out, ← Hr.out, hmo.out, if_pos HrE.out]; exact Hng.out, rfl, by rw [any_succ Hd.out, ← Hany.out, Hnd.out]; rfl, by rw [Hng.out]; exact hda, rfl⟩
                 case measure => simp [intOf]; omega)
          · have hg3 : flt r G = false := by rw [Hng.out, hf3, decide_eq_false hrE]
            have HrE := Lib.hid hrE; clear hrE hf3
            cases z <;>
              (go_wp2
               go_region
               all_goals
                 go_wp2
                 go_roundw
                 case rel => exact ⟨k + 1, _, _, _, by omega, by omega, by go_num, rfl, by rw [fold_succ Hd.out, ← Hr.out, hmo.out, if_neg HrE.out], rfl, by rw [any_succ Hd.out, ← Hany.out, Hnd.out]; rfl, hr2, rfl⟩
                 case measure => simp [intOf]; omega)
        | false =>
          obtain ⟨hf4, hDE⟩ := flt_abs hr2 hnd h0 hDl
          have Hnd := Lib.hid hnd; clear hnd hna
          generalize fop .sub (cf x) (cf y) = D at *
          by_cases hrE : r < absB D
          · have hDE' := hDE hrE
            have HDE := Lib.hid hDE'
            rw [decide_eq_true hrE] at hf4
            have HrE := Lib.hid hrE; clear hrE hDE hDE' hf3 hf2
            cases z <;>
              (go_wp2
               go_region
               all_goals
                 go_wp2
                 go_roundw
                 case rel => exact ⟨k + 1, _, _, _, by omega, by omega, by go_num, rfl, by rw [fold_succ Hd.out, ← Hr.out, hmo.out, if_pos HrE.out]; exact HDE.out, rfl, by rw [any_succ Hd.out, ← Hany.out, Hnd.out]; rfl, by rw [HDE.out]; exact hda, rfl⟩
                 case measure => simp [intOf]; omega)
          · rw [decide_eq_false hrE] at hf4
            have HrE := Lib.hid hrE; clear hrE hDE hf3 hf2
            cases z <;>
              (go_wp2
               go_region
               all_goals
                 go_wp2
                 go_roundw
                 case rel => exact ⟨k + 1, _, _, _, by omega, by omega, by go_num, rfl, by rw [fold_succ Hd.out, ← Hr.out, hmo.out, if_neg HrE.out], rfl, by rw [any_succ Hd.out, ← Hany.out, Hnd.out]; rfl, hr2, rfl⟩
                 case measure => simp [intOf]; omega)
    · have hkl : k = min xs.length ys.length := by omega
      rw [hkl, ← Hz.out, List.take_length] at hr hany
      have Hr := Lib.hid hr; have Hany := Lib.hid hany
      clear hr hany hkl
      by_cases hltx : k < xs.length
      all_goals
        cases z
        all_goals
          go_wp2
          go_ret
        · refine ⟨_, _, rfl, ?_, by omega, rfl⟩
          unfold offS offD
          rw [if_neg (by rw [← Hany.out]; decide), ← Hr.out, cf_num ((nan_false_iff r).2 (by omega))]
        · refine ⟨_, _, rfl, ?_, fbits_lt _ _ _ _, rfl⟩
          unfold offS offD
          rw [if_pos (by rw [← Hany.out])]
          exact most_nan hr2 _ _

end Go.Proofs.Ytdoemgccmjddcaa.St
