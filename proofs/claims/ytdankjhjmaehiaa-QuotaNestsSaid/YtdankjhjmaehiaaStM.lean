/- Stats, the small ones: None, below, Same, Ratio, IsNaN, Abs, bits and back. Stats: the loops. Stats: Even and Off, the program's and the document's. Stats: Off, the program's and the document's. Stats: the document's Off; the examples; the law StatsTells. -/
import Derived.Test.YtdankjhjmaehiaaProg
import Derived.Test.YtdankjhjmaehiaaFo
import Derived.Test.YtdankjhjmaehiaaWd
/- Stats, the small ones: None, below, Same, Ratio, IsNaN, Abs, bits and back. -/
namespace Go.Proofs.Ytdankjhjmaehiaa.St
open Go.RowKit Fl Wd
attribute [local go_sem] run_store_float

/-- what a float call comes to that leaves the world alone but for draws -/
def RetF (w : World) (c : Nat) (e : Ending) (w' : World) : Prop := ∃ r n, e = .returned (.float .f64 r) ∧ cf r = c ∧ r < 18446744073709551616 ∧ w' = w.drewN n

theorem fbits_lt (op : BinOp) (x y : Nat) (w : World) : fbits op x y w < 18446744073709551616 := by
  unfold fbits
  cases h : floatBits op .f64 x y with
  | some r => have := floatBits_wf h; simpa [Lit.wf] using this
  | none =>
    show drawnNan _ w < _
    unfold drawnNan Question.cut
    simp only []
    generalize w.tape w.drawn _ = t
    have h1 : t / 2 % (2 ^ 52 - 1) < 2 ^ 52 - 1 := Nat.mod_lt _ (by decide)
    have h2 : t % 2 = 0 ∨ t % 2 = 1 := by omega
    rcases h2 with h2 | h2 <;> rw [h2] <;> omega

theorem none_any (x : Nat) (w : World) : Calls Try.prog 34 #[.float .f64 x] w fun e w' => e = .returned (.bool (nan x)) ∧ w = w' := by
  go_enter Try.func34, Try.ntmps34
  go_wp2
  go_ret
  exact ⟨by simp [feq_self], rfl⟩
theorem isnan_any (x : Nat) (w : World) : Calls Try.prog 86 #[.float .f64 x] w fun e w' => e = .returned (.bool (nan x)) ∧ w = w' := by
  go_enter Try.func86, Try.ntmps86
  go_wp2
  go_ret
  exact ⟨by simp [feq_self], rfl⟩

/-- is it below 0, by its sign? -/
def neg (x : Nat) : Bool := !nan x && x / 9223372036854775808 % 2 == 1
theorem fq0 : floatBits .quo .f64 4607182418800017408 0 = some 9218868437227405312 := by decide +kernel
theorem fq1 : floatBits .quo .f64 4607182418800017408 9223372036854775808 = some 18442240474082181120 := by decide +kernel
theorem feq_zero {x : Nat} (hx : x < 18446744073709551616) : feq x 0 = true ↔ x = 0 ∨ x = 9223372036854775808 := by
  have h0 : nan 0 = false := by decide +kernel
  have h1 : nan 9223372036854775808 = false := by decide +kernel
  constructor
  · intro h
    unfold feq at h
    simp only [Bool.and_eq_true, decide_eq_true_eq] at h
    obtain ⟨_, h⟩ := h
    unfold key at h
    simp at h
    split at h <;> omega
  · rintro (rfl | rfl) <;> decide +kernel
theorem flt_zero {x : Nat} (hx : x < 18446744073709551616) (hz : feq x 0 = false) : flt x 0 = neg x := by
  have h0 : nan 0 = false := by decide +kernel
  cases hn : nan x with
  | true => simp [flt, neg, hn]
  | false =>
    have hz' : ¬ (x = 0 ∨ x = 9223372036854775808) := fun h => by rw [(feq_zero hx).2 h] at hz; cases hz
    unfold flt neg key
    simp only [hn, h0, Bool.not_false, Bool.true_and]
    have a1 : x / 9223372036854775808 % 2 = 0 ∨ x / 9223372036854775808 % 2 = 1 := by omega
    rcases a1 with a | a <;> simp [a] <;> omega

theorem below_any (x : Nat) (hx : x < 18446744073709551616) (w : World) : Calls Try.prog 35 #[.float .f64 x] w fun e w' => e = .returned (.bool (neg x)) ∧ w = w' := by
  cases hz : feq x 0 with
  | true =>
    have hl : flt x 0 = false := by
      rcases (feq_zero hx).1 hz with rfl | rfl <;> decide +kernel
    have hq : ∃ r, floatBits .quo .f64 4607182418800017408 x = some r ∧ flt r 0 = neg x := by
      rcases (feq_zero hx).1 hz with rfl | rfl
      · exact ⟨_, fq0, by decide +kernel⟩
      · exact ⟨_, fq1, by decide +kernel⟩
    obtain ⟨r, hr, hrn⟩ := hq
    have hb : ∀ w, fbits .quo 4607182418800017408 x w = r := fun w => by simp [fbits, hr]
    have hc : fcount .quo 4607182418800017408 x = 0 := by simp [fcount, hr]
    clear hr
    go_enter Try.func35, Try.ntmps35
    go_wp2
    go_ret
    exact ⟨by simp, rfl⟩
  | false =>
    have hl := flt_zero hx hz
    cases hn : neg x with
    | true =>
      rw [hn] at hl
      go_enter Try.func35, Try.ntmps35
      go_wp2
      go_ret
      exact ⟨rfl, rfl⟩
    | false =>
      rw [hn] at hl
      go_enter Try.func35, Try.ntmps35
      go_wp2
      go_ret
      exact ⟨rfl, rfl⟩

/-- the same float, NaNs taken together -/
def same (a b : Nat) : Bool := cf a == cf b
theorem key_inj {a b : Nat} (ha : a < 18446744073709551616) (hb : b < 18446744073709551616) (h : key a = key b) (hs : (a / 9223372036854775808 % 2 == 1) = (b / 9223372036854775808 % 2 == 1)) : a = b := by
  have a1 : a / 9223372036854775808 % 2 = 0 ∨ a / 9223372036854775808 % 2 = 1 := by omega
  have a2 : b / 9223372036854775808 % 2 = 0 ∨ b / 9223372036854775808 % 2 = 1 := by omega
  unfold key at h
  rcases a1 with a1 | a1 <;> rcases a2 with a2 | a2 <;> simp [a1, a2] at h hs <;> omega
theorem cf_num {a : Nat} (h : nan a = false) : cf a = a := by simp [cf, h]
theorem cf_nan {a : Nat} (h : nan a = true) : cf a = nanC := by simp [cf, h]

theorem same_any (a b : Nat) (ha : a < 18446744073709551616) (hb : b < 18446744073709551616) (w : World) :
    Calls Try.prog 11 #[.float .f64 a, .float .f64 b] w fun e w' => e = .returned (.bool (same a b)) ∧ w = w' := by
  have ca := none_any a
  have cb := none_any b
  have da := below_any a ha
  have db := below_any b hb
  have Ha := Lib.hid ca; have Hb := Lib.hid cb; have Da := Lib.hid da; have Db := Lib.hid db
  clear ca cb da db
  cases hna : nan a with
  | true =>
    rw [hna] at Ha
    cases hnb : nan b with
    | true =>
      rw [hnb] at Hb
      have e : same a b = true := by simp [same, cf_nan hna, cf_nan hnb]
      rw [e]
      clear e
      go_enter Try.func11, Try.ntmps11
      go_wp2_with fail
      refine (Ha.out _).mono ?_; rintro e w' ⟨rfl, rfl⟩
      go_wp2_with fail
      refine (Ha.out _).mono ?_; rintro e w' ⟨rfl, rfl⟩
      go_wp2_with fail
      refine (Hb.out _).mono ?_; rintro e w' ⟨rfl, rfl⟩
      go_wp2_with fail
      go_ret
      exact ⟨rfl, rfl⟩
    | false =>
      rw [hnb] at Hb
      have e : same a b = false := by
        simp only [same, cf_nan hna, cf_num hnb, beq_eq_false_iff_ne]
        intro h; rw [← h, nan_nanC] at hnb; cases hnb
      rw [e]
      clear e
      go_enter Try.func11, Try.ntmps11
      go_wp2_with fail
      refine (Ha.out _).mono ?_; rintro e w' ⟨rfl, rfl⟩
      go_wp2_with fail
      refine (Ha.out _).mono ?_; rintro e w' ⟨rfl, rfl⟩
      go_wp2_with fail
      refine (Hb.out _).mono ?_; rintro e w' ⟨rfl, rfl⟩
      go_wp2_with fail
      go_ret
      exact ⟨rfl, rfl⟩
  | false =>
    rw [hna] at Ha
    cases hnb : nan b with
    | true =>
      rw [hnb] at Hb
      have e : same a b = false := by
        simp only [same, cf_num hna, cf_nan hnb, beq_eq_false_iff_ne]
        intro h; rw [h, nan_nanC] at hna; cases hna
      rw [e]
      clear e
      go_enter Try.func11, Try.ntmps11
      go_wp2_with fail
      refine (Ha.out _).mono ?_; rintro e w' ⟨rfl, rfl⟩
      go_wp2_with fail
      refine (Hb.out _).mono ?_; rintro e w' ⟨rfl, rfl⟩
      go_wp2_with fail
      refine (Ha.out _).mono ?_; rintro e w' ⟨rfl, rfl⟩
      go_wp2_with fail
      go_ret
      exact ⟨rfl, rfl⟩
    | false =>
      rw [hnb] at Hb
      cases hq : feq a b with
      | false =>
        have e : same a b = false := by
          simp only [same, cf_num hna, cf_num hnb, beq_eq_false_iff_ne]
          rintro rfl; rw [feq_self, hna] at hq; cases hq
        rw [e]
        clear e
        go_enter Try.func11, Try.ntmps11
        go_wp2_with fail
        refine (Ha.out _).mono ?_; rintro e w' ⟨rfl, rfl⟩
        go_wp2_with fail
        refine (Hb.out _).mono ?_; rintro e w' ⟨rfl, rfl⟩
        go_wp2_with fail
        go_ret
        exact ⟨rfl, rfl⟩
      | true =>
        have e : (neg a == neg b) = same a b := by
          have hk : key a = key b := by unfold feq at hq; simp [hna, hnb] at hq; exact hq
          simp only [same, cf_num hna, cf_num hnb, neg, hna, hnb, Bool.not_false, Bool.true_and]
          rw [Bool.eq_iff_iff, beq_iff_eq, beq_iff_eq]
          exact ⟨fun h => key_inj ha hb hk h, fun h => by rw [h]⟩
        have E := Lib.hid e
        clear e
        go_enter Try.func11, Try.ntmps11
        go_wp2_with fail
        refine (Ha.out _).mono ?_; rintro e w' ⟨rfl, rfl⟩
        go_wp2_with fail
        refine (Hb.out _).mono ?_; rintro e w' ⟨rfl, rfl⟩
        go_wp2_with fail
        refine (Da.out _).mono ?_; rintro e w' ⟨rfl, rfl⟩
        go_wp2_with fail
        refine (Db.out _).mono ?_; rintro e w' ⟨rfl, rfl⟩
        go_wp2_with fail
        go_ret
        exact ⟨by rw [← E.out]; rfl, rfl⟩

@[go_sem] theorem run_frombits (n : Int) (w : World) : (callFunc 91 #[.int .u64 n]).run Try.prog w = .ok (.value (.float .f64 n.toNat)) w := by
  rw [run_callFunc_extern Try.func91 (by kernel_rfl) (by kernel_rfl) (by kernel_rfl) (e := Extern.MathFloatBits.float64frombits) (by kernel_rfl)]; rfl
@[go_sem] theorem run_tobits (n : Nat) (w : World) : (callFunc 88 #[.float .f64 n]).run Try.prog w = .ok (.value (.int .u64 (n : Int))) w := by
  rw [run_callFunc_extern Try.func88 (by kernel_rfl) (by kernel_rfl) (by kernel_rfl) (e := Extern.MathFloatBits.float64bits) (by kernel_rfl)]; rfl

/-- the bits without their sign -/
def absB (x : Nat) : Nat := x % 9223372036854775808
theorem abs_bits (x : Nat) (hx : x < 18446744073709551616) : (bits .andNot .u64 (x : Int) 9223372036854775808).toNat = absB x := by
  have h := u64_andNot_nat x 9223372036854775808 (by omega) (by omega)
  have e : ((9223372036854775808 : Nat) : Int) = 9223372036854775808 := rfl
  rw [← e, h]
  have e2 : 18446744073709551615 - 9223372036854775808 = 2 ^ 63 - 1 := by decide
  rw [e2, Nat.and_two_pow_sub_one_eq_mod]
  rfl
theorem abs_any (x : Nat) (hx : x < 18446744073709551616) (w : World) : Calls Try.prog 96 #[.float .f64 x] w fun e w' => e = .returned (.float .f64 (absB x)) ∧ w = w' := by
  go_enter Try.func96, Try.ntmps96
  go_wp2
  go_ret
  exact ⟨by rw [← abs_bits x hx]; rfl, rfl⟩

end Go.Proofs.Ytdankjhjmaehiaa.St

/- Stats: the loops. -/
namespace Go.Proofs.Ytdankjhjmaehiaa.St
open Go.RowKit Fl Wd
attribute [local go_sem] run_store_float

def F (xs : List Nat) : List Value := xs.map (Value.float .f64)
theorem info45 : (Try.prog.info? 35).map (fun i => (i.zero, i.size, i.bytes)) = some (some (.float .f64 0), 1, 8) := by kernel_rfl

/-- the law's own 'floats': bits as floats, in new memory -/
def OwnF (B : Nat) (xs : List Nat) (e : Ending) (w w' : World) : Prop := ∃ A c, e = .returned (.slice A xs.length c) ∧ Sl w' w'.heap.size 1 A xs.length (F xs) ∧ Below B w w'
/-- a sum, NaNs taken together -/
def tot (xs : List Nat) : Nat := xs.foldl (fun s x => fop .add s (cf x)) 0
theorem tot_succ {xs : List Nat} {k x : Nat} (h : xs[k]? = some x) : tot (xs.take (k + 1)) = fop .add (tot (xs.take k)) (cf x) := by
  unfold tot; rw [List.take_add_one, h, List.foldl_append]; rfl
theorem cf_zero : cf 0 = 0 := by decide +kernel

set_option maxRecDepth 20000 in
set_option maxHeartbeats 400000 in
theorem total_any (A : Option Addr) (c : Nat) (xs : List Nat) (hn : xs.length ≤ 1000) (w : World) (B : Nat) (ha : Sl w B 1 A xs.length (F xs)) :
    Calls Try.prog 36 #[.slice A xs.length c] w fun e w' => RetF w (tot xs) e w' := by
  go_enter Try.func36, Try.ntmps36
  go_wp2
  go_loopw [3, 5, 8] (fun v _ i wr => ∃ k r n : Nat, k ≤ xs.length ∧ i = .int .i64 k ∧ v = .float .f64 r ∧ cf r = tot (xs.take k) ∧ r < 18446744073709551616 ∧ wr = w.drewN n)
    (fun _ _ i _ => xs.length - (intOf i).toNat)
  case atStart => exact ⟨0, 0, 0, Nat.zero_le _, rfl, rfl, by rw [List.take_zero]; exact cf_zero, by omega, rfl⟩
  case round =>
    obtain ⟨k, r, n, hk, rfl, rfl, hr, hr2, rfl⟩ := hrel
    by_cases hlt : k < xs.length
    · obtain ⟨a, u, rfl, hab, hu, hc⟩ := ha.cell1 hlt
      unfold F at hu
      simp only [List.getElem?_map] at hu
      obtain ⟨x, hxk, rfl⟩ := Option.map_eq_some_iff.1 hu
      have Hxk := Lib.hid hxk; have Hr := Lib.hid hr
      clear hu ha hxk hr
      go_wp2
      go_roundw
      case rel => exact ⟨k + 1, _, _, by omega, by go_num, rfl, by rw [cf_fbits, Hr.out, tot_succ Hxk.out], fbits_lt _ _ _ _, rfl⟩
      case measure => simp [intOf]; omega
    · have hkl : k = xs.length := by omega
      subst hkl
      rw [List.take_length] at hr
      have Hr := Lib.hid hr; clear hr
      go_wp2
      go_ret
      exact ⟨r, n, rfl, Hr.out, hr2, rfl⟩

def I (xs : List Int) : List Value := xs.map (Value.int .i64)
def fl (xs : List Int) : List Nat := xs.map (floatOfInt .f64)
theorem fi_lt (n : Int) : floatOfInt .f64 n < 18446744073709551616 := by have := floatOfInt_wf .f64 n; simpa [Lit.wf] using this

def meanS (xs : List Int) : Nat := fop .quo (tot (fl xs)) (cf (floatOfInt .f64 xs.length))
/-- what a float call comes to that may make memory -/
def RetB (w : World) (c : Nat) (e : Ending) (w' : World) : Prop := ∃ r, e = .returned (.float .f64 r) ∧ cf r = c ∧ r < 18446744073709551616 ∧ Below w.heap.size w w'

end Go.Proofs.Ytdankjhjmaehiaa.St

/- Stats: Even and Off, the program's and the document's. -/
namespace Go.Proofs.Ytdankjhjmaehiaa.St
open Go.RowKit Fl Wd
attribute [local go_sem] run_store_float

def sq (x : Nat) : Nat := fop .mul (cf x) (cf x)
def evenS (xs : List Nat) : Nat := fop .quo (fop .mul (tot xs) (tot xs)) (fop .mul (cf (floatOfInt .f64 xs.length)) (tot (xs.map sq)))

theorem tot_cf (ys zs : List Nat) (h : ys.map cf = zs.map cf) : tot ys = tot zs := by
  have key : ∀ (l : List Nat) (s : Nat), l.foldl (fun s x => fop .add s (cf x)) s = (l.map cf).foldl (fun s x => fop .add s x) s := by
    intro l
    induction l with
    | nil => intro s; rfl
    | cons a l ih => intro s; simp only [List.foldl_cons, List.map_cons]; exact ih _
  unfold tot; rw [key, key, h]

end Go.Proofs.Ytdankjhjmaehiaa.St

/- Stats: Off, the program's and the document's. -/
namespace Go.Proofs.Ytdankjhjmaehiaa.St
open Go.RowKit Fl Wd
attribute [local go_sem] run_store_float

/-- how far off, of differences -/
def dif (p : Nat × Nat) : Nat := fop .sub (cf p.1) (cf p.2)
def mo (m d : Nat) : Nat := if nan d then m else Nat.max m (absB d)
def offD (ds : List Nat) : Nat := if ds.any nan then nanC else ds.foldl mo 0
def offS (xs ys : List Nat) : Nat := offD ((xs.zip ys).map dif)

theorem run_max_pos {P : Program} (ts : Array TypeId) (ty : TypeId) (x y : Nat) (hx : x ≤ 9218868437227405312) (hy : y ≤ 9218868437227405312) (w : World) :
    (Builtin.max_ ts ty #[.float .f64 x, .float .f64 y]).run P w = .ok (.float .f64 (Nat.max x y)) w := by
  have hnx : nan x = false := (nan_false_iff x).2 (by omega)
  have hny : nan y = false := (nan_false_iff y).2 (by omega)
  have ho := order_key hnx hny
  have e1 : key x = (x : Int) := by unfold key; rw [if_neg (by omega)]; omega
  have e2 : key y = (y : Int) := by unfold key; rw [if_neg (by omega)]; omega
  rw [e1, e2] at ho
  have ho' : FloatKind.f64.format.order x y = _ := ho
  by_cases h1 : x < y
  · rw [compare_lt (by omega)] at ho'
    have : Nat.max x y = y := Nat.max_eq_right (by omega)
    simp [Builtin.max_, Builtin.max2, ho', this]
  · by_cases h2 : y < x
    · rw [compare_gt (by omega)] at ho'
      have : Nat.max x y = x := Nat.max_eq_left (by omega)
      simp [Builtin.max_, Builtin.max2, ho', this]
    · have : x = y := by omega
      subst this
      have e3 : compare (x : Int) (x : Int) = .eq := by simp [compare, compareOfLessAndEq]
      rw [e3] at ho'
      have : Nat.max x x = x := Nat.max_self x
      simp [Builtin.max_, Builtin.max2, ho', this]
theorem nan_absB (x : Nat) : nan (absB x) = nan x := by
  unfold absB
  have h1 := nan_iff x
  have h2 := nan_iff (x % 9223372036854775808)
  rw [Nat.mod_mod] at h2
  rw [Bool.eq_iff_iff, h1, h2]
theorem absB_le {x : Nat} (h : nan x = false) : absB x ≤ 9218868437227405312 := (nan_false_iff x).1 h
theorem absB_cf {x : Nat} (h : nan x = false) : absB (cf x) = absB x := by rw [cf_num h]
theorem mo_le (m d : Nat) (h : m ≤ 9218868437227405312) : mo m d ≤ 9218868437227405312 := by
  unfold mo; split
  · exact h
  · rename_i hn
    have := absB_le (x := d) (by simpa using hn)
    exact Nat.max_le.2 ⟨h, this⟩

theorem isnan_is (x : Nat) (b : Bool) (h : nan x = b) (w : World) : Calls Try.prog 86 #[.float .f64 x] w fun e w' => e = .returned (.bool b) ∧ w = w' := h ▸ isnan_any x w
theorem nan_fbits (op : BinOp) (x y : Nat) (w : World) : nan (fbits op x y w) = nan (fop op (cf x) (cf y)) := by rw [← nan_cf, cf_fbits]
theorem fbits_num {op : BinOp} {x y : Nat} (h : nan (fop op (cf x) (cf y)) = false) (w : World) : fbits op x y w = fop op (cf x) (cf y) := by
  rw [← nan_fbits op x y w] at h
  rw [← cf_num h, cf_fbits]
theorem absB_lt (x : Nat) : absB x < 18446744073709551616 := by unfold absB; omega

theorem zip_at {xs ys : List Nat} {k x y : Nat} (hx : xs[k]? = some x) (hy : ys[k]? = some y) : ((xs.zip ys).map dif)[k]? = some (fop .sub (cf x) (cf y)) := by
  rw [List.getElem?_map, (List.getElem?_zip_eq_some (z := (x, y))).2 ⟨hx, hy⟩]; rfl
theorem fold_succ {ds : List Nat} {k d : Nat} (h : ds[k]? = some d) : (ds.take (k + 1)).foldl mo 0 = mo ((ds.take k).foldl mo 0) d := by
  rw [List.take_add_one, h, List.foldl_append]; rfl
theorem any_succ {ds : List Nat} {k d : Nat} (h : ds[k]? = some d) : (ds.take (k + 1)).any nan = ((ds.take k).any nan || nan d) := by
  rw [List.take_add_one, h, List.any_append]; simp
theorem any_of_at {ds : List Nat} {k d : Nat} (h : ds[k]? = some d) (hn : nan d = true) : ds.any nan = true :=
  List.any_eq_true.2 ⟨d, List.mem_of_getElem? h, hn⟩

end Go.Proofs.Ytdankjhjmaehiaa.St

/- Stats: the document's Off; the examples; the law StatsTells. -/
namespace Go.Proofs.Ytdankjhjmaehiaa.St
open Go.RowKit Fl Wd

theorem negFloat_eq {x : Nat} (h1 : 9223372036854775808 ≤ x) (h2 : x < 18446744073709551616) : Op.negFloat .f64 x = absB x := by
  unfold Op.negFloat absB
  have e : 2 ^ (FloatKind.f64.format.exponentBits + FloatKind.f64.format.fractionBits) = 2 ^ 63 := by decide +kernel
  rw [e]
  have : x = 2 ^ 63 + x % 9223372036854775808 := by omega
  generalize x % 9223372036854775808 = y at *
  have hy : y < 2 ^ 63 := by omega
  subst this
  have ho : 2 ^ 63 + y = 2 ^ 63 ||| y := by
    have := Nat.two_pow_add_eq_or_of_lt hy 1
    simpa using this
  rw [ho]
  apply Nat.eq_of_testBit_eq
  intro i
  rw [Nat.testBit_xor, Nat.testBit_or, Nat.testBit_two_pow]
  by_cases hi : 63 = i
  · subst hi
    have : y.testBit 63 = false := Nat.testBit_lt_two_pow hy
    simp [this]
  · simp [hi]
theorem flt_neg {x : Nat} (hx : x < 18446744073709551616) (h : flt x 0 = true) : 9223372036854775808 ≤ x := by
  unfold flt key at h
  simp at h
  obtain ⟨_, h⟩ := h
  split at h <;> omega
theorem flt_abs {r x : Nat} (hr : r ≤ 9218868437227405312) (hx : nan x = false) (h0 : flt x 0 = false) (hl : x < 18446744073709551616) : flt r x = decide (r < absB x) ∧ (r < absB x → x = absB x) := by
  have hnr : nan r = false := (nan_false_iff r).2 (by omega)
  have hn0 : nan 0 = false := by decide +kernel
  unfold flt at *
  rw [hx, hn0] at h0
  rw [hx, hnr]
  simp only [Bool.not_false, Bool.true_and, decide_eq_false_iff_not] at *
  unfold key absB at *
  by_cases hs : x / 9223372036854775808 % 2 = 1
  · rw [if_pos hs] at h0 ⊢
    rw [if_neg (by omega)]
    simp at h0
    refine ⟨by rw [decide_eq_decide]; omega, by omega⟩
  · rw [if_neg hs] at h0 ⊢
    rw [if_neg (by omega)]
    refine ⟨by rw [decide_eq_decide]; omega, by omega⟩
theorem flt_pos {r x : Nat} (hr : r ≤ 9218868437227405312) (hx : x ≤ 9218868437227405312) : flt r x = decide (r < x) := by
  have h1 : nan r = false := (nan_false_iff r).2 (by omega)
  have h2 : nan x = false := (nan_false_iff x).2 (by omega)
  unfold flt; rw [h1, h2]
  unfold key; rw [if_neg (by omega), if_neg (by omega)]
  simp only [Bool.not_false, Bool.true_and]
  rw [decide_eq_decide]; omega
theorem feq_num {x : Nat} (h : nan x = false) : feq x x = true := by rw [feq_self, h]; rfl
theorem flt_nanl {x y : Nat} (h : nan x = true) : flt x y = false := by unfold flt; rw [h]; rfl
theorem flt_nanr {x y : Nat} (h : nan y = true) : flt x y = false := by unfold flt; rw [h]; simp

theorem mo_cases (m d : Nat) : mo m d = if nan d then m else if m < absB d then absB d else m := by
  unfold mo; split
  · rfl
  · split
    · exact Nat.max_eq_right (by omega)
    · exact Nat.max_eq_left (by omega)

/-- 'most / 0 * 0' is no number. -/
theorem most_nan {r : Nat} (hr : r ≤ 9218868437227405312) (w w2 : World) : cf (fbits .mul (fbits .quo r 0 w) 0 w2) = nanC := by
  rw [cf_fbits, cf_fbits, cf_zero]
  have e0 : Ieee.double.read 0 = .number false 0 (-1074) := by decide +kernel
  by_cases h0 : r = 0
  · subst h0; decide +kernel
  · have hq : fop .quo (cf r) 0 = 9218868437227405312 ∨ fop .quo (cf r) 0 = nanC := by
      rw [cf_num ((nan_false_iff r).2 (by omega))]
      by_cases hi : r = 9218868437227405312
      · subst hi; left; decide +kernel
      · obtain ⟨m, k, e, hm⟩ := read_num (b := r) (by omega)
        have hm0 : m ≠ 0 := by
          rintro rfl
          have : mag (r % 9223372036854775808) = 0 := by rw [← hm]; omega
          have h2 := mag_lt (a := 0) (b := r % 9223372036854775808) (by omega)
          rw [mag_zero] at h2; omega
        left
        have hs : (r / 9223372036854775808 % 2 == 1) = false := by
          have : r / 9223372036854775808 % 2 = 0 := by omega
          rw [this]; rfl
        unfold fop floatBits
        simp only [FloatKind.format, Ieee.Format.div, e, e0, hs, Ieee.Datum.quotient, if_true, if_neg hm0]
        decide +kernel
    rcases hq with hq | hq <;> rw [hq] <;> decide +kernel

end Go.Proofs.Ytdankjhjmaehiaa.St
