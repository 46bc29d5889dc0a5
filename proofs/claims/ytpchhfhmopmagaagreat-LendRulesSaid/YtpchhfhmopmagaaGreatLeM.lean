/- Lending, told plainly: who wants, who may borrow of whom. slices.Contains on ints; slices.ContainsFunc on ints, of a function value that captures one word. The document's example of lending: three classes. The document's lending: wants, Wanting. The document's lending: the rules, Lender, Able. lend.Wanting, the bank. The bank: over, the rules. lend.Lender, lend.Able. The document's example of lending. The document's example of lending: true. -/
import Derived.Test.YtpchhfhmopmagaaGreatPaM
import Derived.Test.YtpchhfhmopmagaaGreatTp5
import Derived.Test.YtpchhfhmopmagaaGreatCfM
import Derived.Test.YtpchhfhmopmagaaGreatPbM
import Derived.Test.YtpchhfhmopmagaaGreatLxM
import Derived.Test.YtpchhfhmopmagaaGreatGaM
import Derived.BigRegion
set_option linter.unusedVariables false
set_option linter.unusedSimpArgs false
/- Lending, told plainly: who wants, who may borrow of whom. -/
namespace Go.Proofs.YtpchhfhmopmagaaGreat.Le
open Go.RowKit Go.Maps Go.Proofs.YtpchhfhmopmagaaGreat.Wd Go.Proofs.YtpchhfhmopmagaaGreat.Li Go.Proofs.YtpchhfhmopmagaaGreat.Mp Go.Proofs.YtpchhfhmopmagaaGreat.Tp Go.Proofs.YtpchhfhmopmagaaGreat.Tr Go.Proofs.YtpchhfhmopmagaaGreat.Cl Go.Proofs.YtpchhfhmopmagaaGreat.So Go.Proofs.YtpchhfhmopmagaaGreat.Sw Go.Proofs.YtpchhfhmopmagaaGreat.Pa

/-- the classes of a list, by rising IDs -/
def idsS (l : List Cls) : List Int := ids (sortC l)
theorem idsS_len (l : List Cls) : (idsS l).length = l.length := ids_len l
theorem idsS_mem {l : List Cls} (i : Int) : i ∈ idsS l ↔ i ∈ ids l := sort_ids i
theorem idsS_get {l : List Cls} {k : Nat} {i : Int} (h : (idsS l)[k]? = some i) : i ∈ ids l := (idsS_mem i).1 (List.mem_of_getElem? h)
/-- whether one waits below a class -/
def busyB (l : List Cls) (bs : List Int) (id : Int) : Bool := (belowS l id).any (fun i => decide (i ∈ bs))
def wantB (l : List Cls) (ov bs : List Int) (id : Int) : Bool := !decide (id ∈ ov) && busyB l bs id
def wantP (l : List Cls) (ov bs : List Int) (k : Nat) : List Int := ((idsS l).take k).filter (wantB l ov bs)
def wantS (l : List Cls) (ov bs : List Int) : List Int := (idsS l).filter (wantB l ov bs)
variable {l : List Cls}
theorem wantP_all (ov bs : List Int) : wantP l ov bs (idsS l).length = wantS l ov bs := by unfold wantP wantS; rw [List.take_length]
theorem wantP_in {ov bs : List Int} {i : Int} {k : Nat} (h : (idsS l)[k]? = some i) (hu : wantB l ov bs i = true) : wantP l ov bs (k + 1) = wantP l ov bs k ++ [i] := by
  unfold wantP; rw [List.take_add_one, h, List.filter_append]; simp [hu]
theorem wantP_out {ov bs : List Int} {i : Int} {k : Nat} (h : (idsS l)[k]? = some i) (hu : wantB l ov bs i = false) : wantP l ov bs (k + 1) = wantP l ov bs k := by
  unfold wantP; rw [List.take_add_one, h, List.filter_append]; simp [hu]
theorem wantP_len (ov bs : List Int) (k : Nat) : (wantP l ov bs k).length ≤ k := Nat.le_trans (List.length_filter_le _ _) (List.length_take_le _ _)
theorem wantS_len (ov bs : List Int) : (wantS l ov bs).length ≤ l.length := Nat.le_trans (List.length_filter_le _ _) (by rw [idsS_len]; exact Nat.le_refl _)
theorem wantS_mem {ov bs : List Int} {i : Int} (h : i ∈ wantS l ov bs) : i ∈ ids l := (idsS_mem i).1 (List.mem_filter.1 h).1
/-- whether a wanting class keeps a leaf from borrowing of a class -/
def stopB (l : List Cls) (leaf by_ id : Int) : Bool := decide (levelS l id < levelS l by_) && !apartS l id leaf
def formB (l : List Cls) (ov bs : List Int) (leaf by_ : Int) : Bool := (wantS l ov bs).all (fun id => !stopB l leaf by_ id)
def letsB (l : List Cls) (r top : Int) (ov bs : List Int) (leaf by_ : Int) : Bool := if r = 1 then decide (levelS l by_ ≤ top) else if r = 2 then formB l ov bs leaf by_ else true
def okB (l : List Cls) (r top : Int) (ov bs : List Int) (leaf by_ : Int) : Bool := !decide (by_ ∈ ov) && letsB l r top ov bs leaf by_
def lenderS (l : List Cls) (r top : Int) (ov bs : List Int) (leaf : Int) : Option Int :=
  if leafB l leaf = false then none else if leaf ∉ ov then some leaf else (lendS l leaf).find? (okB l r top ov bs leaf)
def ableB (l : List Cls) (r top : Int) (ov bs : List Int) (i : Int) : Bool := (lenderS l r top ov bs i).isSome && decide (i ∈ bs)
def ableP (l : List Cls) (r top : Int) (ov bs : List Int) (k : Nat) : List Int := ((leavesS l).take k).filter (ableB l r top ov bs)
def ableS (l : List Cls) (r top : Int) (ov bs : List Int) : List Int := (leavesS l).filter (ableB l r top ov bs)
theorem ableP_all (r top : Int) (ov bs : List Int) : ableP l r top ov bs (leavesS l).length = ableS l r top ov bs := by unfold ableP ableS; rw [List.take_length]
theorem ableP_in {r top : Int} {ov bs : List Int} {i : Int} {k : Nat} (h : (leavesS l)[k]? = some i) (hu : ableB l r top ov bs i = true) : ableP l r top ov bs (k + 1) = ableP l r top ov bs k ++ [i] := by
  unfold ableP; rw [List.take_add_one, h, List.filter_append]; simp [hu]
theorem ableP_out {r top : Int} {ov bs : List Int} {i : Int} {k : Nat} (h : (leavesS l)[k]? = some i) (hu : ableB l r top ov bs i = false) : ableP l r top ov bs (k + 1) = ableP l r top ov bs k := by
  unfold ableP; rw [List.take_add_one, h, List.filter_append]; simp [hu]
theorem ableP_len (r top : Int) (ov bs : List Int) (k : Nat) : (ableP l r top ov bs k).length ≤ k := Nat.le_trans (List.length_filter_le _ _) (List.length_take_le _ _)
theorem ableS_len (r top : Int) (ov bs : List Int) : (ableS l r top ov bs).length ≤ l.length := Nat.le_trans (List.length_filter_le _ _) (leaves_len l)
theorem lender_no {r top : Int} {ov bs : List Int} {leaf : Int} (h : leafB l leaf = false) : lenderS l r top ov bs leaf = none := if_pos h
theorem lender_own {r top : Int} {ov bs : List Int} {leaf : Int} (h : leafB l leaf = true) (ho : leaf ∉ ov) : lenderS l r top ov bs leaf = some leaf := by unfold lenderS; rw [if_neg (by rw [h]; decide), if_pos ho]
theorem lender_way {r top : Int} {ov bs : List Int} {leaf : Int} (h : leafB l leaf = true) (ho : leaf ∈ ov) : lenderS l r top ov bs leaf = (lendS l leaf).find? (okB l r top ov bs leaf) := by unfold lenderS; rw [if_neg (by rw [h]; decide), if_neg (fun h => h ho)]
theorem find_skip {p : Int → Bool} {zs : List Int} {k : Nat} {i : Int} (h : zs[k]? = some i) (hp : p i = false) : (zs.drop k).find? p = (zs.drop (k + 1)).find? p := by
  have hk := (List.getElem?_eq_some_iff.1 h).1
  rw [List.drop_eq_getElem_cons hk, List.find?_cons]
  have : zs[k] = i := by have := (List.getElem?_eq_some_iff.1 h).2; exact this
  rw [this, hp]
theorem find_got {p : Int → Bool} {zs : List Int} {k : Nat} {i : Int} (h : zs[k]? = some i) (hp : p i = true) : (zs.drop k).find? p = some i := by
  have hk := (List.getElem?_eq_some_iff.1 h).1
  rw [List.drop_eq_getElem_cons hk, List.find?_cons]
  have : zs[k] = i := by have := (List.getElem?_eq_some_iff.1 h).2; exact this
  rw [this, hp]
/-- the document's rule: over all the classes, in their own order -/
def keepB (l : List Cls) (ov bs : List Int) (leaf by_ id : Int) : Bool := decide (levelS l id < levelS l by_) && (wantB l ov bs id && !apartS l id leaf)
theorem form_is (ov bs : List Int) (leaf by_ : Int) : formB l ov bs leaf by_ = (ids l).all (fun id => !keepB l ov bs leaf by_ id) := by
  rw [Bool.eq_iff_iff]
  unfold formB stopB keepB wantS
  simp only [List.all_eq_true, List.mem_filter, idsS_mem]
  constructor
  · intro h x hx
    cases hw : wantB l ov bs x with
    | false => simp
    | true => have := h x ⟨hx, hw⟩; simpa using this
  · intro h x hx
    have := h x hx.1
    rw [hx.2] at this
    simpa using this
end Go.Proofs.YtpchhfhmopmagaaGreat.Le

/- slices.Contains on ints; slices.ContainsFunc on ints, of a function value that captures one word. -/
namespace Go.Proofs.YtpchhfhmopmagaaGreat.Le
open Go.RowKit Go.Maps Go.Proofs.YtpchhfhmopmagaaGreat.Wd Go.Proofs.YtpchhfhmopmagaaGreat.Li Go.Proofs.YtpchhfhmopmagaaGreat.Sr Go.Proofs.YtpchhfhmopmagaaGreat.Sw

def IdxOk (xs : List Int) (v : Int) (w : World) (e : Ending) (w' : World) : Prop := ((∃ k : Nat, v ∈ xs ∧ e = .returned (.int .i64 (k : Int))) ∨ (v ∉ xs ∧ e = .returned (.int .i64 (-1)))) ∧ w = w'
theorem take_mem {xs : List Int} {k : Nat} {x v : Int} (h : xs[k]? = some x) : v ∈ xs.take (k + 1) ↔ v ∈ xs.take k ∨ v = x := by
  rw [List.take_add_one, h]; simp
set_option maxRecDepth 20000 in
set_option maxHeartbeats 1000000 in
theorem index_c (A : Option Addr) (c : Nat) (xs : List Int) (v : Int) (hx : xs.length ≤ 1048576) (B : Nat) (w : World) (h1 : Sl w B 1 A xs.length (St.I xs)) :
    Calls Tryz.prog 159 #[.slice A xs.length c, .int .i64 v] w (IdxOk xs v w) := by
  have H1 := Lib.hid h1
  clear h1
  go_enter Tryz.func159, Tryz.ntmps159
  go_wp2
  go_loopg [8] xs.length (fun kx s8 wr => ∃ k : Nat, s8 = .int .i64 k ∧ k ≤ xs.length ∧ xs.length - k ≤ kx ∧ wr = w ∧ Hid (v ∉ xs.take k))
  case atStart => exact ⟨0, rfl, by omega, by omega, rfl, Lib.hid (by simp)⟩
  case round =>
    obtain ⟨k, rfl, hk, hkx, rfl, HN⟩ := hrel
    by_cases hlt : k < xs.length
    · have hltz : (k : Int) < (xs.length : Int) := by omega
      obtain ⟨a, u, rfl, hab, hu, hc⟩ := H1.out.cell1 (k := k) hlt
      unfold St.I at hu
      simp only [List.getElem?_map] at hu
      obtain ⟨x, hx0, rfl⟩ := Option.map_eq_some_iff.1 hu
      have HX := Lib.hid hx0
      clear hu hx0
      by_cases hv : v = x
      · have e1 : (v == x) = true := by rw [beq_iff_eq]; exact hv
        have HV := Lib.hid hv
        clear hv
        go_wp2
        go_ret
        exact ⟨.inl ⟨k, by rw [HV.out]; exact List.mem_of_getElem? HX.out, rfl⟩, rfl⟩
      · have e1 : (v == x) = false := by rw [beq_eq_false_iff_ne]; exact hv
        have HV := Lib.hid hv
        clear hv
        go_wp2
        go_roundg (xs.length - (k + 1))
        case measure => omega
        case rel => exact ⟨k + 1, by go_num, by omega, by omega, rfl, Lib.hid (by rw [take_mem HX.out]; exact fun h => h.elim HN.out HV.out)⟩
    · have hltz : ¬ (k : Int) < (xs.length : Int) := by omega
      obtain rfl : k = xs.length := by omega
      go_wp2
      go_ret
      exact ⟨.inr ⟨by have := HN.out; rwa [List.take_length] at this, rfl⟩, rfl⟩
set_option maxRecDepth 20000 in
theorem contains_c (A : Option Addr) (c : Nat) (xs : List Int) (v : Int) (hx : xs.length ≤ 1048576) (B : Nat) (w : World) (h1 : Sl w B 1 A xs.length (St.I xs)) :
    Calls Tryz.prog 80 #[.slice A xs.length c, .int .i64 v] w fun e w' => e = .returned (.bool (decide (v ∈ xs))) ∧ w = w' := by
  have H := Lib.hid (index_c A c xs v hx B w h1)
  by_cases hv : v ∈ xs
  · have hd : decide (v ∈ xs) = true := decide_eq_true hv
    rw [hd]
    have HV := Lib.hid hv
    clear h1 hv hd
    go_enter Tryz.func80, Tryz.ntmps80
    go_wp2_with (go_at_call 159; refine (H.out).mono ?_; rintro e w' ⟨⟨k, _, rfl⟩ | ⟨hn, _⟩, rfl⟩; rotate_left; exact absurd HV.out hn)
    go_ret
    exact ⟨rfl, rfl⟩
  · have hd : decide (v ∈ xs) = false := decide_eq_false hv
    rw [hd]
    have HV := Lib.hid hv
    clear h1 hv hd
    go_enter Tryz.func80, Tryz.ntmps80
    go_wp2_with (go_at_call 159; refine (H.out).mono ?_; rintro e w' ⟨⟨k, hn, _⟩ | ⟨_, rfl⟩, rfl⟩; exact absurd hn HV.out)
    go_ret
    exact ⟨rfl, rfl⟩
/-- what a predicate answers, in every world that keeps w's blocks -/
def PredB (g : Nat) (cv : Value) (p : Int → Bool) (w : World) : Prop := ∀ (W : World) (x : Int), Below w.heap.size w W → Calls Tryz.prog g #[.int .i64 x, cv] W fun e w' => e = .returned (.bool (p x)) ∧ Below W.heap.size W w'
theorem any_take {p : Int → Bool} {xs : List Int} {k : Nat} {x : Int} (h : xs[k]? = some x) (hn : (xs.take k).any p = false) (hx : p x = false) : (xs.take (k + 1)).any p = false := by
  rw [List.take_add_one, h, List.any_append, hn]; simp [hx]
theorem any_hit {p : Int → Bool} {xs : List Int} {k : Nat} {x : Int} (h : xs[k]? = some x) (hx : p x = true) : xs.any p = true := List.any_eq_true.2 ⟨x, List.mem_of_getElem? h, hx⟩
def IdxFOk (xs : List Int) (p : Int → Bool) (w : World) (e : Ending) (w' : World) : Prop := ((∃ k : Nat, xs.any p = true ∧ e = .returned (.int .i64 (k : Int))) ∨ (xs.any p = false ∧ e = .returned (.int .i64 (-1)))) ∧ Below w.heap.size w w'
set_option maxRecDepth 20000 in
set_option maxHeartbeats 1000000 in
theorem indexF_c (g : Nat) (cv : Value) (p : Int → Bool) (eg : ∀ args w, (callFunc g args).run Tryz.prog w = .ok (.enter g args) w) (A : Option Addr) (c : Nat) (xs : List Int) (hx : xs.length ≤ 1048576) (w : World) (h1 : Sl w w.heap.size 1 A xs.length (St.I xs)) (hp : PredB g cv p w) :
    Calls Tryz.prog 162 #[.slice A xs.length c, .func (.func g) #[] #[cv]] w (IdxFOk xs p w) := by
  have H1 := Lib.hid h1
  have HP := Lib.hid hp
  clear h1 hp
  go_enter Tryz.func162, Tryz.ntmps162
  go_wp2
  go_loopg [8] xs.length (fun kx s8 wr => ∃ k : Nat, s8 = .int .i64 k ∧ k ≤ xs.length ∧ xs.length - k ≤ kx ∧ Hid (Below w.heap.size w wr) ∧ Hid ((xs.take k).any p = false))
  case atStart => exact ⟨0, rfl, by omega, by omega, Lib.hid (Below.refl _ _), Lib.hid (by simp)⟩
  case round =>
    obtain ⟨k, rfl, hk, hkx, HW, HN⟩ := hrel
    have hwz := HW.out.size
    by_cases hlt : k < xs.length
    · have hltz : (k : Int) < (xs.length : Int) := by omega
      obtain ⟨a, u, rfl, hab, hu, hc⟩ := (H1.out.below HW.out).cell1 (k := k) hlt
      unfold St.I at hu
      simp only [List.getElem?_map] at hu
      obtain ⟨x, hx0, rfl⟩ := Option.map_eq_some_iff.1 hu
      have HX := Lib.hid hx0
      have hcall := HP.out wr x HW.out
      clear hu hx0
      cases hv : p x with
      | true =>
        rw [hv] at hcall
        have HV := Lib.hid hv
        have HCA := Lib.hid hcall
        clear hv hcall
        go_wp2_with (go_at_fn g; refine (HCA.out).mono ?_; rintro e w2 ⟨rfl, hb2⟩; have HB2 := Lib.hid hb2; clear hb2)
        go_ret
        exact ⟨.inl ⟨k, any_hit HX.out HV.out, rfl⟩, HW.out.trans (HB2.out.mono hwz)⟩
      | false =>
        rw [hv] at hcall
        have HV := Lib.hid hv
        have HCA := Lib.hid hcall
        clear hv hcall
        go_wp2_with (go_at_fn g; refine (HCA.out).mono ?_; rintro e w2 ⟨rfl, hb2⟩; have HB2 := Lib.hid hb2; clear hb2)
        go_roundg (xs.length - (k + 1))
        case measure => omega
        case rel => exact ⟨k + 1, by go_num, by omega, by omega, Lib.hid (HW.out.trans (HB2.out.mono hwz)), Lib.hid (any_take HX.out HN.out HV.out)⟩
    · have hltz : ¬ (k : Int) < (xs.length : Int) := by omega
      obtain rfl : k = xs.length := by omega
      go_wp2
      go_ret
      exact ⟨.inr ⟨by have := HN.out; rwa [List.take_length] at this, rfl⟩, HW.out⟩
set_option maxRecDepth 20000 in
theorem containsF_c (g : Nat) (cv : Value) (p : Int → Bool) (eg : ∀ args w, (callFunc g args).run Tryz.prog w = .ok (.enter g args) w) (A : Option Addr) (c : Nat) (xs : List Int) (hx : xs.length ≤ 1048576) (w : World) (h1 : Sl w w.heap.size 1 A xs.length (St.I xs)) (hp : PredB g cv p w) :
    Calls Tryz.prog 83 #[.slice A xs.length c, .func (.func g) #[] #[cv]] w fun e w' => e = .returned (.bool (xs.any p)) ∧ Below w.heap.size w w' := by
  have H := Lib.hid (indexF_c g cv p eg A c xs hx w h1 hp)
  cases hv : xs.any p with
  | true =>
    have HV := Lib.hid hv
    clear h1 hv
    go_enter Tryz.func83, Tryz.ntmps83
    go_wp2_with (go_at_call 162; refine (H.out).mono ?_; rintro e w' ⟨⟨k, _, rfl⟩ | ⟨hn, _⟩, hb⟩; rotate_left; exact absurd (HV.out.symm.trans hn) (by decide))
    go_ret
    exact ⟨rfl, hb⟩
  | false =>
    have HV := Lib.hid hv
    clear h1 hv
    go_enter Tryz.func83, Tryz.ntmps83
    go_wp2_with (go_at_call 162; refine (H.out).mono ?_; rintro e w' ⟨⟨k, hn, _⟩ | ⟨_, rfl⟩, hb⟩; exact absurd (HV.out.symm.trans hn) (by decide))
    go_ret
    exact ⟨rfl, hb⟩
end Go.Proofs.YtpchhfhmopmagaaGreat.Le

/- The document's example of lending: three classes. -/
namespace Go.Proofs.YtpchhfhmopmagaaGreat.Le
open Go.RowKit Go.Maps Go.Proofs.YtpchhfhmopmagaaGreat.Fl Go.Proofs.YtpchhfhmopmagaaGreat.Wd Go.Proofs.YtpchhfhmopmagaaGreat.Li Go.Proofs.YtpchhfhmopmagaaGreat.Mp Go.Proofs.YtpchhfhmopmagaaGreat.Tp Go.Proofs.YtpchhfhmopmagaaGreat.Tr Go.Proofs.YtpchhfhmopmagaaGreat.Cl Go.Proofs.YtpchhfhmopmagaaGreat.So Go.Proofs.YtpchhfhmopmagaaGreat.Sw Go.Proofs.YtpchhfhmopmagaaGreat.Pa Go.Proofs.YtpchhfhmopmagaaGreat.Qu Go.Proofs.YtpchhfhmopmagaaGreat.Cf Go.Proofs.YtpchhfhmopmagaaGreat.Fi

theorem rhe_mul' (k : Nat) : rhe (k * U) = k := by
  unfold rhe
  have hp := U_pos
  rw [Nat.mul_div_cancel _ hp, Nat.mul_mod_left, if_neg (by omega)]; rfl
theorem units_half' : unitsS half = (524288, 0) := by
  unfold unitsS
  rw [if_neg (by decide +kernel), if_neg (by decide +kernel)]
  rw [show half % 9223372036854775808 = half from rfl, show mag half * 2 ^ 20 = 524288 * (mag half * 2) by omega, mag_half, rhe_mul']
def exH (i : Int) : Cls := ⟨i, 1, half, 0, 1, 1, 0, 0, 0, false, false⟩
theorem right_exH (i : Int) (hi : 2 ≤ i ∧ i ≤ 65535) : rightS (exH i) = 0 := by
  unfold rightS exH fairS
  simp [units_half']
  omega
def ex3 : List Cls := [exK 1 0, exH 2, exH 3]
theorem ex3_scan : scan ex3 3 = 0 := by
  have e0 : errAt ex3 0 = 0 := by rw [errAt_is (c := exK 1 0) rfl (right_ex 1 0 (by omega) (by omega) (by omega)), if_pos (by decide +kernel)]
  have e1 : errAt ex3 1 = 0 := by rw [errAt_is (c := exH 2) rfl (right_exH 2 (by omega)), if_pos (by decide +kernel)]
  have e2 : errAt ex3 2 = 0 := by rw [errAt_is (c := exH 3) rfl (right_exH 3 (by omega)), if_pos (by decide +kernel)]
  rw [scan_succ, e2]
  rw [scan_succ, e1]
  rw [scan_succ, e0]
  rfl
theorem ex3_check : checkS ex3 = 0 := by rw [check_is (by decide) (by decide)]; exact ex3_scan
theorem ex3_rootS : rootS ex3 = 1 := by decide +kernel
theorem ex3_root : Tp.Root ex3 (rootS ex3) := by
  rw [ex3_rootS]
  refine ⟨⟨exK 1 0, by simp [ex3], rfl, rfl⟩, fun c hc h0 => ?_, fun c hc h0 => ?_⟩
  · simp only [ex3, List.mem_cons, List.not_mem_nil, or_false] at hc
    rcases hc with rfl | rfl | rfl <;> first | rfl | (simp [exH] at h0)
  · simp only [ex3, List.mem_cons, List.not_mem_nil, or_false] at hc
    rcases hc with rfl | rfl | rfl <;> simp [exK, exH, ex3, ids] at h0 ⊢
theorem ex3_desc : desc ex3 64 (rootS ex3) = [1, 2, 3] := by rw [ex3_rootS]; decide +kernel
theorem ex3_level : level ex3 1 = 2 := by decide +kernel
theorem ex3_chk : chk ex3 = 0 := by
  refine chk_fine ex3_check ex3_root (fun i hi => ?_) (by rw [ex3_rootS, ex3_level]; decide)
  rw [ex3_desc]
  exact hi
theorem ex3_tree : Tp.Tree ex3 := chk_tree ex3_chk
theorem ex3_u1 : uAt ex3 1 = 1048576 := by
  rw [uAt_some (c := exK 1 0) rfl]; unfold uOf exK; rw [units_one]
theorem ex3_u2 : uAt ex3 2 = 524288 := by
  rw [uAt_some (c := exH 2) rfl]; unfold uOf exH; rw [units_half']
theorem ex3_u3 : uAt ex3 3 = 524288 := by
  rw [uAt_some (c := exH 3) rfl]; unfold uOf exH; rw [units_half']
theorem ex3_k1 : kids ex3 1 = [2, 3] := by decide +kernel
theorem ex3_k2 : kids ex3 2 = [] := by decide +kernel
theorem ex3_k3 : kids ex3 3 = [] := by decide +kernel
theorem ex3_s1 : spareS ex3 1 = 0 := by
  unfold spareS; rw [ex3_k1, ex3_u1]; simp only [List.map_cons, List.map_nil, List.sum_cons, List.sum_nil, ex3_u2, ex3_u3]; decide
theorem ex3_s2 : spareS ex3 2 = 524288 := by unfold spareS; rw [ex3_k2, ex3_u2]; decide
theorem ex3_s3 : spareS ex3 3 = 524288 := by unfold spareS; rw [ex3_k3, ex3_u3]; decide
theorem ex3_ids : ids ex3 = [1, 2, 3] := rfl
theorem ex3_quota : quotaB ex3 = true := by
  unfold quotaB
  rw [ex3_ids]
  simp [ex3_s1, ex3_s2, ex3_s3]
theorem ex3_share : ∀ x ∈ ex3, x.share < 18446744073709551616 := fun x hx => by
  simp only [ex3, List.mem_cons, List.not_mem_nil, or_false] at hx
  rcases hx with rfl | rfl | rfl <;> decide
theorem ex3_leaf : leafB ex3 2 = true := by decide +kernel
theorem ex3_conf (r : Int) (h0 : 0 ≤ r) (h2 : r ≤ 2) : chkC 1 r 2 ex3 [] = 0 := by
  rw [chk_rest (by omega) (by omega) ex3_chk ex3_quota]
  rw [if_neg (by decide), if_neg (by decide), ex3_leaf]; rfl
theorem ex3_0 : lenderS ex3 0 1 [2] [2] 2 = some 1 := by decide +kernel
theorem ex3_1 : lenderS ex3 1 1 [2] [2] 2 = none := by decide +kernel
theorem ex3_2 : lenderS ex3 2 1 [2] [2] 2 = some 1 := by decide +kernel
theorem ex3_3 : lenderS ex3 2 0 [2] [2, 3] 2 = none := by decide +kernel
end Go.Proofs.YtpchhfhmopmagaaGreat.Le

/- The document's lending: wants, Wanting. -/
namespace Go.Proofs.YtpchhfhmopmagaaGreat.Le
open Go.RowKit Go.Maps Go.Proofs.YtpchhfhmopmagaaGreat.Wd Go.Proofs.YtpchhfhmopmagaaGreat.Li Go.Proofs.YtpchhfhmopmagaaGreat.Mp Go.Proofs.YtpchhfhmopmagaaGreat.Tp Go.Proofs.YtpchhfhmopmagaaGreat.Tr Go.Proofs.YtpchhfhmopmagaaGreat.Cl Go.Proofs.YtpchhfhmopmagaaGreat.So Go.Proofs.YtpchhfhmopmagaaGreat.Sw Go.Proofs.YtpchhfhmopmagaaGreat.Pa Go.Proofs.YtpchhfhmopmagaaGreat.Cf Go.Proofs.YtpchhfhmopmagaaGreat.Fi
attribute [local go_sem] run_store_float

theorem want_over {l : List Cls} {ov bs : List Int} {id : Int} (h : decide (id ∈ ov) = true) : wantB l ov bs id = false := by unfold wantB; rw [h]; rfl
theorem want_free {l : List Cls} {ov bs : List Int} {id : Int} (h : decide (id ∈ ov) = false) : wantB l ov bs id = busyB l bs id := by unfold wantB; rw [h]; rfl
set_option maxRecDepth 20000 in
set_option maxHeartbeats 1000000 in
theorem refwants_c (t r d : Int) (A : Option Addr) (cap : Nat) (B : Option Addr) (mb cb : Nat) (l : List Cls) (F0 : Fit l) (O : Option Addr) (oc : Nat) (ov : List Int) (Q : Option Addr) (qc : Nat) (bs : List Int) (hol : ov.length ≤ 70) (hql : bs.length ≤ 70) (id : Int) (w : World)
    (hI : Holds w.heap.size w (.slice A l.length cap) l) (hO : Sl w w.heap.size 1 O ov.length (St.I ov)) (hQ : Sl w w.heap.size 1 Q bs.length (St.I bs)) :
    Calls Tryz.prog 87 #[cfV t r d (.slice A l.length cap) (.slice B mb cb), .slice O ov.length oc, .slice Q bs.length qc, .int .i64 id] w (Tr.RetB (.bool (wantB l ov bs id)) w) := by
  have hh := heap_alloc_new w (.cells #[.int .i64 t, .int .i64 r, .int .i64 d, .slice A l.length cap, .slice B mb cb] 25)
  have hB0 := (Below.refl w.heap.size w).alloc (Nat.le_refl _) (.cells #[.int .i64 t, .int .i64 r, .int .i64 d, .slice A l.length cap, .slice B mb cb] 25)
  have HH := Lib.hid hh; have HB0 := Lib.hid hB0
  have HI := Lib.hid ((hI.below hB0).up hB0.size)
  have HO := Lib.hid (has_c O oc w.heap.size ov id (by omega) _ (hO.below hB0))
  have HQ := Lib.hid (fun (u : World) (h : Below w.heap.size w u) (y : Int) => has_c Q qc w.heap.size bs y (by omega) u (hQ.below h))
  have HF := Lib.hid F0
  clear hB0 hh hI hO hQ F0
  go_enter Tryz.func87, Tryz.ntmps87
  go_upto_region 1 with fail
  generalize World.alloc w _ = U at *
  cases hov : decide (id ∈ ov) with
  | true =>
    rw [hov] at HO
    have HR := Lib.hid (want_over (l := l) (bs := bs) hov)
    clear hov
    go_wp2_with (go_at_call 27; (with_reducible refine (HO.out).mono ?_); rintro e w9 ⟨rfl, hw9⟩; subst w9)
    go_ret
    exact ⟨by rw [HR.out]; rfl, HB0.out⟩
  | false =>
    rw [hov] at HO
    have HRF := Lib.hid (want_free (l := l) (bs := bs) hov)
    clear hov
    have x3 := cells_at HH.out 3 (.slice A l.length cap) rfl
    have HBE := Lib.hid (refbelow_c A cap l HF.out id U HI.out)
    unfold ListOk at HBE
    have hBL : (belowS l id).length ≤ 64 := by rw [← belowP_all]; exact Nat.le_trans (belowP_len _ _ _) (Nat.le_trans (leaves_len l) HF.out.le)
    unfold busyB at HRF
    generalize belowS l id = zs at *
    go_wp2_with (first
      | (go_at_call 27; (with_reducible refine (HO.out).mono ?_); rintro e w9 ⟨rfl, hw9⟩; subst w9)
      | (go_at_call 163; (with_reducible refine (HBE.out).mono ?_); rintro e w1 ⟨A1, c1, rfl, hs1, hb1⟩; have HS1 := Lib.hid hs1; have HB1 := Lib.hid hb1; clear hs1 hb1))
    have HW1 := Lib.hid (HB0.out.trans (HB1.out.mono HB0.out.size))
    clear x3 HBE HO HH
    go_loopg [10] zs.length (fun kx s10 wr => ∃ (k : Nat), s10 = .int .i64 k ∧ k ≤ zs.length ∧ zs.length - k ≤ kx ∧ wr = w1 ∧ Hid ((zs.take k).any (fun i => decide (i ∈ bs)) = false))
    case atStart => exact ⟨0, rfl, by omega, by omega, rfl, Lib.hid rfl⟩
    case round =>
      obtain ⟨k, rfl, hk, hkx, rfl, HN⟩ := hrel
      by_cases hlt : k < zs.length
      · have hltz : (k : Int) < (zs.length : Int) := by omega
        obtain ⟨a, u, rfl, hab, hu, hc⟩ := (HS1.out).cell1 (k := k) hlt
        unfold St.I at hu
        simp only [List.getElem?_map] at hu
        obtain ⟨y, hy0, rfl⟩ := Option.map_eq_some_iff.1 hu
        have HY := Lib.hid hy0
        have hq := HQ.out _ HW1.out y
        clear hu hy0
        cases hyb : decide (y ∈ bs) with
        | true =>
          rw [hyb] at hq
          have HQ2 := Lib.hid hq
          have HR := Lib.hid (any_hit (p := fun i => decide (i ∈ bs)) HY.out hyb)
          clear hyb hq
          go_wp2_with (go_at_call 27; (with_reducible refine (HQ2.out).mono ?_); rintro e w9 ⟨rfl, hw9⟩; subst w9)
          go_ret
          exact ⟨by rw [HRF.out, HR.out]; rfl, HW1.out⟩
        | false =>
          rw [hyb] at hq
          have HQ2 := Lib.hid hq
          have HR := Lib.hid (any_take (p := fun i => decide (i ∈ bs)) HY.out HN.out hyb)
          clear hyb hq
          go_wp2_with (go_at_call 27; (with_reducible refine (HQ2.out).mono ?_); rintro e w9 ⟨rfl, hw9⟩; subst w9)
          go_roundg (zs.length - (k + 1))
          case measure => omega
          case rel => exact ⟨k + 1, by go_num, by omega, by omega, rfl, HR⟩
      · have hltz : ¬ (k : Int) < (zs.length : Int) := by omega
        obtain rfl : k = zs.length := by omega
        have HR : Hid (zs.any (fun i => decide (i ∈ bs)) = false) := Lib.hid (by have := HN.out; rwa [List.take_length] at this)
        go_wp2
        go_ret
        exact ⟨by rw [HRF.out, HR.out]; rfl, HW1.out⟩
set_option maxRecDepth 20000 in
set_option maxHeartbeats 2000000 in
theorem refwanting_c (t r d : Int) (A : Option Addr) (cap : Nat) (B : Option Addr) (mb cb : Nat) (l : List Cls) (F0 : Fit l) (O : Option Addr) (oc : Nat) (ov : List Int) (Q : Option Addr) (qc : Nat) (bs : List Int) (hol : ov.length ≤ 70) (hql : bs.length ≤ 70) (w : World)
    (hI : Holds w.heap.size w (.slice A l.length cap) l) (hO : Sl w w.heap.size 1 O ov.length (St.I ov)) (hQ : Sl w w.heap.size 1 Q bs.length (St.I bs)) :
    Calls Tryz.prog 39 #[cfV t r d (.slice A l.length cap) (.slice B mb cb), .slice O ov.length oc, .slice Q bs.length qc] w (ListOk (wantS l ov bs) w) := by
  have hh := heap_alloc_new w (.cells #[.int .i64 t, .int .i64 r, .int .i64 d, .slice A l.length cap, .slice B mb cb] 25)
  have hB0 := (Below.refl w.heap.size w).alloc (Nat.le_refl _) (.cells #[.int .i64 t, .int .i64 r, .int .i64 d, .slice A l.length cap, .slice B mb cb] 25)
  have hz0 : (w.alloc (.cells #[.int .i64 t, .int .i64 r, .int .i64 d, .slice A l.length cap, .slice B mb cb] 25)).heap.size = w.heap.size + 1 := by simp
  have HH := Lib.hid hh; have HB0 := Lib.hid hB0
  have HI := Lib.hid (fun (u : World) (h : Below w.heap.size w u) => (hI.below h).up h.size)
  have HWN := Lib.hid (fun (u : World) (h : Below w.heap.size w u) (id : Int) => refwants_c t r d A cap B mb cb l F0 O oc ov Q qc bs hol hql id u ((hI.below h).up h.size) ((hO.below h).more h.size) ((hQ.below h).more h.size))
  have HF := Lib.hid F0
  unfold Tr.RetB cfV at HWN
  clear hB0 hh hI hO hQ F0
  go_enter Tryz.func39, Tryz.ntmps39
  go_upto_region 1 with fail
  generalize World.alloc w _ = U at *
  obtain ⟨xb, hxb⟩ : ∃ xb, xb = w.heap.size := ⟨_, rfl⟩
  rw [← hxb] at HH ⊢
  have hxU : xb < U.heap.size := by omega
  have hxw : w.heap.size ≤ xb := by omega
  clear hxb hz0
  have x3 := cells_at HH.out 3 (.slice A l.length cap) rfl
  have HID := Lib.hid (refids_c A l.length cap l (by have := HF.out.le; omega) U (HI.out U HB0.out))
  unfold ListOk at HID
  have hIL : (idsS l).length ≤ 64 := by rw [idsS_len]; exact HF.out.le
  have HZS : Hid (∀ k : Nat, (wantP l ov bs k).length ≤ k) := Lib.hid (fun k => wantP_len ov bs k)
  have hiz : ids (sortC l) = idsS l := rfl
  rw [hiz] at HID
  clear hiz
  obtain ⟨zs, hz⟩ : ∃ zs, zs = idsS l := ⟨_, rfl⟩
  have HZ := Lib.hid hz
  rw [← hz] at HID hIL
  clear hz
  go_wp2_with (go_at_call 86; (with_reducible refine (HID.out).mono ?_); rintro e w1 ⟨A1, c1, rfl, hs1, hb1⟩; have HS1 := Lib.hid hs1; have HB1 := Lib.hid hb1; clear hs1 hb1)
  have hws := HB1.out.size
  have HW1 := Lib.hid (HB0.out.trans (HB1.out.mono HB0.out.size))
  have HC1 := Lib.hid ((HB1.out.block xb hxU).trans HH.out)
  have hx1 : xb < w1.heap.size := Nat.lt_of_lt_of_le hxU hws
  clear x3 HID HH
  go_loopg [7, 9] zs.length (fun kx s7 s9 wr => ∃ (k : Nat) (B9 : Option Addr) (c9 : Nat), s9 = .int .i64 k ∧ s7 = .slice B9 (wantP l ov bs k).length c9 ∧ k ≤ zs.length ∧ zs.length - k ≤ kx ∧ Hid (wr.ownsRow w1.heap.size 3 1 s7 (wantP l ov bs k).length (St.I (wantP l ov bs k))) ∧ Hid (Below w1.heap.size w1 wr))
  case atStart => exact ⟨0, none, 0, rfl, rfl, by omega, by omega, Lib.hid (World.ownsRow_nil ..), Lib.hid (Below.refl _ _)⟩
  case round =>
    obtain ⟨k, B9, c9, rfl, rfl, hk, hkx, HO, HW⟩ := hrel
    have hwz := HW.out.size
    by_cases hlt : k < zs.length
    · have hltz : (k : Int) < (zs.length : Int) := by omega
      obtain ⟨a, u, rfl, hab, hu, hc⟩ := (HS1.out.below HW.out).cell1 (k := k) hlt
      unfold St.I at hu
      simp only [List.getElem?_map] at hu
      obtain ⟨y, hy0, rfl⟩ := Option.map_eq_some_iff.1 hu
      rw [HZ.out] at hy0
      have HY := Lib.hid hy0
      have HWW := Lib.hid (HW1.out.trans (HW.out.mono HW1.out.size))
      have hol := HZS.out k
      have k0 := (HW.out.block xb hx1).trans HC1.out
      have f0 := cells_at k0 0 (.int .i64 t) rfl; have f1 := cells_at k0 1 (.int .i64 r) rfl; have f2 := cells_at k0 2 (.int .i64 d) rfl; have f3 := cells_at k0 3 (.slice A l.length cap) rfl; have f4 := cells_at k0 4 (.slice B mb cb) rfl
      have hxr : xb < wr.heap.size := by omega
      have hab2 : (a.add k).block < wr.heap.size := by rw [add_block]; omega
      have HWY := Lib.hid (fun (u : World) (h : Below wr.heap.size wr u) => HWN.out u (HWW.out.trans (h.mono HWW.out.size)) y)
      have HD := Lib.hid ((Below.refl wr.heap.size wr).drew)
      obtain ⟨q, hq⟩ : ∃ q, q = wantB l ov bs y := ⟨_, rfl⟩
      rw [← hq] at HWY
      have HQ := Lib.hid hq
      have HK0 := Lib.hid k0
      have HC := Lib.hid hc
      clear hu hy0 hq k0
      go_upto_region 6 with fail
      go_region_held3 (fun w' => w'.cell? ⟨xb, 0, none⟩ = some (.int .i64 t) ∧ w'.cell? ⟨xb, 1, none⟩ = some (.int .i64 r) ∧ w'.cell? ⟨xb, 2, none⟩ = some (.int .i64 d) ∧ w'.cell? ⟨xb, 3, none⟩ = some (.slice A l.length cap) ∧ w'.cell? ⟨xb, 4, none⟩ = some (.slice B mb cb) ∧ w'.cell? (a.add k) = some (.int .i64 y)) (first | (refine ⟨?_, ?_, ?_, ?_, ?_, ?_⟩ <;> (refine (Below.cell (w := wr) (B := wr.heap.size) ?hb ?hp).trans (by assumption); (case hp => assumption); (case hb => (repeat' (first | assumption | exact Below.refl _ _ | refine Below.drew ?_))))) | (all_goals (refine (Below.cell (w := wr) (B := wr.heap.size) ?hb ?hp).trans (by assumption); (case hp => assumption); (case hb => (repeat' (first | assumption | exact Below.refl _ _ | refine Below.drew ?_)))))) (first
        | (go_at_call 87; (with_reducible refine (HWY.out _ HD.out).mono ?_); rintro e w3 ⟨rfl, hb3⟩; have hbK := HD.out.trans (hb3.mono HD.out.size); have hbKs := hbK.size))
      have HBK := Lib.hid hbK
      have HO3 := Lib.hid (own_same (w' := w3) HO.out (fun q hq => HBK.out.block q (HO.out.lt q hq).2))
      have HW3 := Lib.hid (HW.out.trans (HBK.out.mono hwz))
      have hw3 : w1.heap.size ≤ w3.heap.size := HW3.out.size
      have g0 := (HBK.out.cell (p := a.add k) hab2).trans HC.out
      clear f0 f1 f2 f3 f4 hc hbK
      cases q with
      | true =>
        have HTK := Lib.hid (wantP_in HY.out HQ.out.symm)
        generalize wantP l ov bs k = os at *
        go_wp2_with ((at_builtin; go_must (refine wpList_push_at (by rfl) _ _ 38 (by rfl) Tryz.underlying38 w1.heap.size y w3 _ os (by rfl) HO3.out (by rfl) (by omega) (by omega) ?_)); intro g cap7 w7 hown7 hg7 hl7; have HO7 := Lib.hid hown7; have HB7 := Lib.hid (push_below HW3.out (Nat.le_refl _) (by omega) HO3.out hg7); clear hown7 hg7 hl7)
        go_roundg (zs.length - (k + 1))
        case measure => omega
        case rel => exact ⟨k + 1, some ⟨g, 0, none⟩, cap7, by go_num, by rw [HTK.out]; simp, by omega, by omega, Lib.hid (by rw [HTK.out]; have := HO7.out; simpa [Sv.val] using this), HB7⟩
      | false =>
        have HTK := Lib.hid (wantP_out HY.out HQ.out.symm)
        go_wp2_with fail
        go_roundg (zs.length - (k + 1))
        case measure => omega
        case rel => exact ⟨k + 1, B9, c9, by go_num, by rw [HTK.out], by omega, by omega, Lib.hid (by rw [HTK.out]; exact HO3.out), HW3⟩
    · have hltz : ¬ (k : Int) < (zs.length : Int) := by omega
      obtain rfl : k = zs.length := by omega
      have HTK : Hid (wantP l ov bs zs.length = wantS l ov bs) := Lib.hid (by rw [HZ.out]; exact wantP_all ov bs)
      rw [HTK.out] at HO ⊢
      go_wp2
      go_ret
      exact ⟨B9, c9, rfl, Sl.of_own HO.out, HW1.out.trans (HW.out.mono HW1.out.size)⟩
end Go.Proofs.YtpchhfhmopmagaaGreat.Le

/- The document's lending: the rules, Lender, Able. -/
namespace Go.Proofs.YtpchhfhmopmagaaGreat.Le
open Go.RowKit Go.Maps Go.Proofs.YtpchhfhmopmagaaGreat.Wd Go.Proofs.YtpchhfhmopmagaaGreat.Li Go.Proofs.YtpchhfhmopmagaaGreat.Mp Go.Proofs.YtpchhfhmopmagaaGreat.Tp Go.Proofs.YtpchhfhmopmagaaGreat.Tr Go.Proofs.YtpchhfhmopmagaaGreat.Cl Go.Proofs.YtpchhfhmopmagaaGreat.So Go.Proofs.YtpchhfhmopmagaaGreat.Sw Go.Proofs.YtpchhfhmopmagaaGreat.Pa Go.Proofs.YtpchhfhmopmagaaGreat.Cf Go.Proofs.YtpchhfhmopmagaaGreat.Fi
attribute [local go_sem] run_store_float Lx.opX Rel.oneOk add_block
attribute [local irreducible] Lx.wpX

theorem leaf_mem_is {l : List Cls} {y : Int} (h : y ∈ leavesS l) : leafB l y = true := by
  unfold leavesS at h
  obtain ⟨h1, h2⟩ := List.mem_filter.1 h
  have h3 := (sort_ids y).1 h1
  unfold leafB
  cases ha : at? l y with
  | none => exact absurd h3 (at_none.1 ha)
  | some c => rw [h2]; rfl
theorem leaf_dec' (l : List Cls) (y : Int) : decide (y ∈ leavesS l) = leafB l y := by
  by_cases h : y ∈ leavesS l
  · rw [decide_eq_true h, leaf_mem_is h]
  · rw [decide_eq_false h]
    unfold leafB
    cases ha : at? l y with
    | none => rfl
    | some c =>
      by_cases h0 : (kids l y).length = 0
      · refine absurd ?_ h
        unfold leavesS
        refine List.mem_filter.2 ⟨(sort_ids y).2 ?_, decide_eq_true h0⟩
        have := at_mem ha
        rw [← this.2]; exact List.mem_map.2 ⟨c, this.1, rfl⟩
      · rw [decide_eq_false h0]; rfl
theorem reflevelS_c (A : Option Addr) (cap : Nat) (l : List Cls) (R : Tp.Tree l) (id : Int) (w : World) (hI : Holds w.heap.size w (.slice A l.length cap) l) :
    Calls Tryz.prog 160 #[.slice A l.length cap, .int .i64 id] w (Tr.RetB (.int .i64 (levelS l id)) w) := by
  by_cases h : id ∈ ids l
  · unfold levelS
    rw [if_pos h]
    exact reflevel_c A cap l R.le 64 id (Nat.le_refl _) (R.deep h) h w hI
  · unfold levelS
    rw [if_neg h]
    exact reflevel_none A l.length cap l (by have := R.le; omega) id h w hI
theorem form_any (l : List Cls) (ov bs : List Int) (leaf by_ : Int) : formB l ov bs leaf by_ = !((ids l).any (keepB l ov bs leaf by_)) := by
  rw [form_is, Bool.eq_iff_iff]
  simp [List.all_eq_true, List.any_eq_false]
theorem lets_top {l : List Cls} {r top : Int} {ov bs : List Int} {leaf by_ : Int} (h : r = 1) : letsB l r top ov bs leaf by_ = decide (levelS l by_ ≤ top) := if_pos h
theorem lets_form {l : List Cls} {r top : Int} {ov bs : List Int} {leaf by_ : Int} (h1 : r ≠ 1) (h : r = 2) : letsB l r top ov bs leaf by_ = !((ids l).any (keepB l ov bs leaf by_)) := by
  unfold letsB; rw [if_neg h1, if_pos h, form_any]
theorem lets_any {l : List Cls} {r top : Int} {ov bs : List Int} {leaf by_ : Int} (h1 : r ≠ 1) (h : r ≠ 2) : letsB l r top ov bs leaf by_ = true := by
  unfold letsB; rw [if_neg h1, if_neg h]
theorem keep_1 {l : List Cls} {ov bs : List Int} {leaf by_ id : Int} (h : decide (levelS l id < levelS l by_) = false) : keepB l ov bs leaf by_ id = false := by unfold keepB; rw [h]; rfl
theorem keep_2 {l : List Cls} {ov bs : List Int} {leaf by_ id : Int} (h : wantB l ov bs id = false) : keepB l ov bs leaf by_ id = false := by unfold keepB; rw [h]; simp
theorem keep_3 {l : List Cls} {ov bs : List Int} {leaf by_ id : Int} (h : apartS l id leaf = true) : keepB l ov bs leaf by_ id = false := by unfold keepB; rw [h]; simp
theorem keep_4 {l : List Cls} {ov bs : List Int} {leaf by_ id : Int} (h1 : decide (levelS l id < levelS l by_) = true) (h2 : wantB l ov bs id = true) (h3 : apartS l id leaf = false) : keepB l ov bs leaf by_ id = true := by unfold keepB; rw [h1, h2, h3]; rfl
theorem ids_at {l : List Cls} {k : Nat} {x : Cls} (h : l[k]? = some x) : (ids l)[k]? = some x.id := by unfold ids; rw [List.getElem?_map, h]; rfl
set_option maxRecDepth 20000 in
set_option maxHeartbeats 2000000 in
theorem reflets_c (t r d : Int) (A : Option Addr) (cap : Nat) (B : Option Addr) (mb cb : Nat) (l : List Cls) (R : Tp.Tree l) (O : Option Addr) (oc : Nat) (ov : List Int) (Q : Option Addr) (qc : Nat) (bs : List Int) (hol : ov.length ≤ 70) (hql : bs.length ≤ 70) (top leaf by_ : Int) (w : World)
    (hI : Holds w.heap.size w (.slice A l.length cap) l) (hO : Sl w w.heap.size 1 O ov.length (St.I ov)) (hQ : Sl w w.heap.size 1 Q bs.length (St.I bs)) :
    Calls Tryz.prog 82 #[cfV t r d (.slice A l.length cap) (.slice B mb cb), .slice O ov.length oc, .slice Q bs.length qc, .int .i64 top, .int .i64 leaf, .int .i64 by_] w (Tr.RetB (.bool (letsB l r top ov bs leaf by_)) w) := by
  have hh := heap_alloc_new w (.cells #[.int .i64 t, .int .i64 r, .int .i64 d, .slice A l.length cap, .slice B mb cb] 25)
  have hB0 := (Below.refl w.heap.size w).alloc (Nat.le_refl _) (.cells #[.int .i64 t, .int .i64 r, .int .i64 d, .slice A l.length cap, .slice B mb cb] 25)
  have hz0 : (w.alloc (.cells #[.int .i64 t, .int .i64 r, .int .i64 d, .slice A l.length cap, .slice B mb cb] 25)).heap.size = w.heap.size + 1 := by simp
  have HH := Lib.hid hh; have HB0 := Lib.hid hB0
  have HI := Lib.hid (fun (u : World) (h : Below w.heap.size w u) => (hI.below h).up h.size)
  have HOV := Lib.hid (fun (u : World) (h : Below w.heap.size w u) (y : Int) => has_c O oc w.heap.size ov y (by omega) u (hO.below h))
  have HQB := Lib.hid (fun (u : World) (h : Below w.heap.size w u) (y : Int) => has_c Q qc w.heap.size bs y (by omega) u (hQ.below h))
  have HWN := Lib.hid (fun (u : World) (h : Below w.heap.size w u) (id : Int) => refwants_c t r d A cap B mb cb l (.inr R) O oc ov Q qc bs hol hql id u ((hI.below h).up h.size) ((hO.below h).more h.size) ((hQ.below h).more h.size))
  have HLV := Lib.hid (fun (u : World) (h : Below w.heap.size w u) (id : Int) => reflevelS_c A cap l R id u ((hI.below h).up h.size))
  have HAP := Lib.hid (fun (u : World) (h : Below w.heap.size w u) (id : Int) => refapart_c A cap l (.inr R) id leaf u ((hI.below h).up h.size))
  unfold Tr.RetB at HLV HAP
  unfold Tr.RetB cfV at HWN
  have h64 := R.le
  clear hB0 hh hI hO hQ R HOV HQB
  go_enter Tryz.func82, Tryz.ntmps82
  go_upto_region 1 with fail
  generalize World.alloc w _ = U at *
  obtain ⟨xb, hxb⟩ : ∃ xb, xb = w.heap.size := ⟨_, rfl⟩
  rw [← hxb] at HH ⊢
  have hxU : xb < U.heap.size := by omega
  have hxw : w.heap.size ≤ xb := by omega
  clear hxb hz0
  have x1 := cells_at HH.out 1 (.int .i64 r) rfl
  have x3 := cells_at HH.out 3 (.slice A l.length cap) rfl
  go_upto_region 2 with (go_at_call 160; (with_reducible refine (HLV.out _ HB0.out by_).mono ?_); rintro e w1 ⟨rfl, hb1⟩; have HB1 := Lib.hid hb1; clear hb1)
  have hws := HB1.out.size
  have HW1 := Lib.hid (HB0.out.trans (HB1.out.mono HB0.out.size))
  have k0 := (HB1.out.block xb hxU).trans HH.out
  have HC1 := Lib.hid k0
  have hx1 : xb < w1.heap.size := Nat.lt_of_lt_of_le hxU hws
  clear x1 x3
  have x1 := cells_at k0 1 (.int .i64 r) rfl
  clear HH k0
  by_cases hr1 : r = 1
  · have HR := Lib.hid (lets_top (l := l) (r := r) (top := top) (ov := ov) (bs := bs) (leaf := leaf) (by_ := by_) hr1)
    have e1 : (r == 1) = true := by rw [beq_iff_eq]; exact hr1
    generalize levelS l by_ = lv at *
    clear hr1
    go_wp2_with fail
    go_ret
    exact ⟨by rw [HR.out]; rfl, HW1.out⟩
  have e1 : (r == 1) = false := by rw [beq_eq_false_iff_ne]; exact hr1
  by_cases hr2 : r = 2
  rotate_left
  · have HR := Lib.hid (lets_any (l := l) (r := r) (top := top) (ov := ov) (bs := bs) (leaf := leaf) (by_ := by_) hr1 hr2)
    have e2 : (r != 2) = true := by rw [bne_iff_ne]; exact hr2
    clear hr1 hr2
    go_wp2_with fail
    go_ret
    exact ⟨by rw [HR.out]; rfl, HW1.out⟩
  have HR := Lib.hid (lets_form (l := l) (r := r) (top := top) (ov := ov) (bs := bs) (leaf := leaf) (by_ := by_) hr1 hr2)
  have e2 : (r != 2) = false := by rw [hr2]; rfl
  clear hr1 hr2
  have HK1 : Hid (∀ id, decide (levelS l id < levelS l by_) = false → keepB l ov bs leaf by_ id = false) := Lib.hid (fun id => keep_1)
  have HK4 : Hid (∀ id, decide (levelS l id < levelS l by_) = true → wantB l ov bs id = true → apartS l id leaf = false → keepB l ov bs leaf by_ id = true) := Lib.hid (fun id => keep_4)
  generalize levelS l by_ = lb at *
  go_wp2_with fail
  go_loopg [14] l.length (fun kx s14 wr => ∃ (k : Nat), s14 = .int .i64 k ∧ k ≤ l.length ∧ l.length - k ≤ kx ∧ Hid (Below w1.heap.size w1 wr) ∧ Hid (((ids l).take k).any (keepB l ov bs leaf by_) = false))
  case atStart => exact ⟨0, rfl, by omega, by omega, Lib.hid (Below.refl _ _), Lib.hid rfl⟩
  case round =>
    obtain ⟨k, rfl, hk, hkx, HW, HN⟩ := hrel
    have hwz := HW.out.size
    have HWW := Lib.hid (HW1.out.trans (HW.out.mono HW1.out.size))
    have k0 := (HW.out.block xb hx1).trans HC1.out
    have x3 := cells_at k0 3 (.slice A l.length cap) rfl
    by_cases hlt : k < l.length
    · have hltz : (k : Int) < (l.length : Int) := by omega
      have f0 := cells_at k0 0 (.int .i64 t) rfl; have f1 := cells_at k0 1 (.int .i64 r) rfl; have f2 := cells_at k0 2 (.int .i64 d) rfl; have f4 := cells_at k0 4 (.slice B mb cb) rfl
      have K0 := Lib.hid k0
      obtain ⟨_, hcs⟩ := holds_parts (HI.out wr HWW.out)
      obtain ⟨b, off, rfl, hb, hc⟩ := hcs (by omega)
      obtain ⟨x, hx⟩ : ∃ x, l[k]? = some x := ⟨_, List.getElem?_eq_getElem hlt⟩
      have c0 : wr.cell? ⟨b, off + k * 11, none⟩ = some (.int .i64 x.id) := hc k x hx 0 _ rfl
      have HX := Lib.hid (ids_at hx)
      have hxr : xb < wr.heap.size := by omega
      clear hcs hc hx k0
      obtain ⟨id, hid⟩ : ∃ id, id = x.id := ⟨_, rfl⟩
      rw [← hid] at c0 HX
      clear hid
      have HL := Lib.hid (HLV.out wr HWW.out id)
      have HK1x := Lib.hid (HK1.out id)
      have HK4x := Lib.hid (HK4.out id)
      obtain ⟨lv, hlv⟩ : ∃ lv, lv = levelS l id := ⟨_, rfl⟩
      rw [← hlv] at HL HK1x HK4x
      clear hlv
      cases hlo : decide (lv < lb) with
      | false =>
        have HT := Lib.hid (any_take HX.out HN.out (HK1x.out hlo))
        go_wp2_with (go_at_call 160; (with_reducible refine (HL.out).mono ?_); rintro e w3 ⟨rfl, hb3⟩; have HB3 := Lib.hid hb3; clear hb3)
        go_roundg (l.length - (k + 1))
        case measure => omega
        case rel => exact ⟨k + 1, by go_num, by omega, by omega, Lib.hid (HW.out.trans (HB3.out.mono hwz)), HT⟩
      | true =>
        have hwnt := HWN.out
        obtain ⟨q, hq⟩ : ∃ q, q = wantB l ov bs id := ⟨_, rfl⟩
        have HWY := Lib.hid (fun (u : World) (h : Below w.heap.size w u) => hwnt u h id)
        rw [← hq] at HWY
        have HQ := Lib.hid hq
        clear hq hwnt
        cases q with
        | false =>
          have HT := Lib.hid (any_take HX.out HN.out (keep_2 HQ.out.symm))
          go_wp2_with (first
            | (go_at_call 160; (with_reducible refine (HL.out).mono ?_); rintro e w3 ⟨rfl, hb3⟩; have hW3 := HWW.out.trans (hb3.mono HWW.out.size); have k3 := (hb3.block xb hxr).trans K0.out; have f0 := cells_at k3 0 (.int .i64 t) rfl; have f1 := cells_at k3 1 (.int .i64 r) rfl; have f2 := cells_at k3 2 (.int .i64 d) rfl; have f3 := cells_at k3 3 (.slice _ l.length cap) rfl; have f4 := cells_at k3 4 (.slice B mb cb) rfl; have HW3 := Lib.hid hW3; have HB3 := Lib.hid hb3; clear hb3 k3 hW3)
            | (go_at_call 87; (with_reducible refine (HWY.out _ HW3.out).mono ?_); rintro e w4 ⟨rfl, hb4⟩; have HB4 := Lib.hid hb4; clear hb4))
          go_roundg (l.length - (k + 1))
          case measure => omega
          case rel => exact ⟨k + 1, by go_num, by omega, by omega, Lib.hid (HW.out.trans ((HB3.out.trans (HB4.out.mono HB3.out.size)).mono hwz)), HT⟩
        | true =>
          obtain ⟨p, hp⟩ : ∃ p, p = apartS l id leaf := ⟨_, rfl⟩
          have hap := HAP.out
          have HAY := Lib.hid (fun (u : World) (h : Below w.heap.size w u) => hap u h id)
          rw [← hp] at HAY
          have HP := Lib.hid hp
          clear hp hap
          cases p with
          | true =>
            have HT := Lib.hid (any_take HX.out HN.out (keep_3 HP.out.symm))
            go_wp2_with (first
              | (go_at_call 160; (with_reducible refine (HL.out).mono ?_); rintro e w3 ⟨rfl, hb3⟩; have hW3 := HWW.out.trans (hb3.mono HWW.out.size); have k3 := (hb3.block xb hxr).trans K0.out; have hx3 : xb < w3.heap.size := Nat.lt_of_lt_of_le hxr hb3.size; have K3 := Lib.hid k3; have f0 := cells_at k3 0 (.int .i64 t) rfl; have f1 := cells_at k3 1 (.int .i64 r) rfl; have f2 := cells_at k3 2 (.int .i64 d) rfl; have f3 := cells_at k3 3 (.slice _ l.length cap) rfl; have f4 := cells_at k3 4 (.slice B mb cb) rfl; have HW3 := Lib.hid hW3; have HB3 := Lib.hid hb3; clear hb3 k3 hW3)
              | (go_at_call 87; (with_reducible refine (HWY.out _ HW3.out).mono ?_); rintro e w4 ⟨rfl, hb4⟩; have hW4 := HW3.out.trans (hb4.mono HW3.out.size); have k4 := (hb4.block xb hx3).trans K3.out; have f3 := cells_at k4 3 (.slice _ l.length cap) rfl; have HW4 := Lib.hid hW4; have HB4 := Lib.hid hb4; clear hb4 k4 hW4)
              | (go_at_call 161; (with_reducible refine (HAY.out _ HW4.out).mono ?_); rintro e w5 ⟨rfl, hb5⟩; have HB5 := Lib.hid hb5; clear hb5))
            go_roundg (l.length - (k + 1))
            case measure => omega
            case rel => exact ⟨k + 1, by go_num, by omega, by omega, Lib.hid (HW.out.trans ((HB3.out.trans ((HB4.out.trans (HB5.out.mono HB4.out.size)).mono HB3.out.size)).mono hwz)), HT⟩
          | false =>
            have HT := Lib.hid (any_hit HX.out (HK4x.out hlo HQ.out.symm HP.out.symm))
            go_wp2_with (first
              | (go_at_call 160; (with_reducible refine (HL.out).mono ?_); rintro e w3 ⟨rfl, hb3⟩; have hW3 := HWW.out.trans (hb3.mono HWW.out.size); have k3 := (hb3.block xb hxr).trans K0.out; have hx3 : xb < w3.heap.size := Nat.lt_of_lt_of_le hxr hb3.size; have K3 := Lib.hid k3; have f0 := cells_at k3 0 (.int .i64 t) rfl; have f1 := cells_at k3 1 (.int .i64 r) rfl; have f2 := cells_at k3 2 (.int .i64 d) rfl; have f3 := cells_at k3 3 (.slice _ l.length cap) rfl; have f4 := cells_at k3 4 (.slice B mb cb) rfl; have HW3 := Lib.hid hW3; have HB3 := Lib.hid hb3; clear hb3 k3 hW3)
              | (go_at_call 87; (with_reducible refine (HWY.out _ HW3.out).mono ?_); rintro e w4 ⟨rfl, hb4⟩; have hW4 := HW3.out.trans (hb4.mono HW3.out.size); have k4 := (hb4.block xb hx3).trans K3.out; have f3 := cells_at k4 3 (.slice _ l.length cap) rfl; have HW4 := Lib.hid hW4; have HB4 := Lib.hid hb4; clear hb4 k4 hW4)
              | (go_at_call 161; (with_reducible refine (HAY.out _ HW4.out).mono ?_); rintro e w5 ⟨rfl, hb5⟩; have HB5 := Lib.hid hb5; clear hb5))
            go_ret
            exact ⟨by rw [HR.out, HT.out]; rfl, HWW.out.trans ((HB3.out.trans ((HB4.out.trans (HB5.out.mono HB4.out.size)).mono HB3.out.size)).mono HWW.out.size)⟩
    · have hltz : ¬ (k : Int) < (l.length : Int) := by omega
      obtain rfl : k = l.length := by omega
      have HT : Hid ((ids l).any (keepB l ov bs leaf by_) = false) := Lib.hid (by have := HN.out; rwa [show l.length = (ids l).length from (List.length_map _).symm, List.take_length] at this)
      go_wp2
      go_ret
      exact ⟨by rw [HR.out, HT.out]; rfl, HWW.out⟩
def LendOk (o : Option Int) (w : World) (e : Ending) (w' : World) : Prop := e = .returned (.tuple #[.int .i64 (o.getD 0), .bool o.isSome]) ∧ Below w.heap.size w w'
theorem ok_over {l : List Cls} {r top : Int} {ov bs : List Int} {leaf by_ : Int} (h : decide (by_ ∈ ov) = true) : okB l r top ov bs leaf by_ = false := by unfold okB; rw [h]; rfl
theorem ok_free {l : List Cls} {r top : Int} {ov bs : List Int} {leaf by_ : Int} (h : decide (by_ ∈ ov) = false) : okB l r top ov bs leaf by_ = letsB l r top ov bs leaf by_ := by unfold okB; rw [h]; rfl
set_option maxRecDepth 20000 in
set_option maxHeartbeats 2000000 in
theorem reflender_c (t r d : Int) (A : Option Addr) (cap : Nat) (B : Option Addr) (mb cb : Nat) (l : List Cls) (R : Tp.Tree l) (O : Option Addr) (oc : Nat) (ov : List Int) (Q : Option Addr) (qc : Nat) (bs : List Int) (hol : ov.length ≤ 70) (hql : bs.length ≤ 70) (top leaf : Int) (w : World)
    (hI : Holds w.heap.size w (.slice A l.length cap) l) (hO : Sl w w.heap.size 1 O ov.length (St.I ov)) (hQ : Sl w w.heap.size 1 Q bs.length (St.I bs)) :
    Calls Tryz.prog 35 #[cfV t r d (.slice A l.length cap) (.slice B mb cb), .slice O ov.length oc, .slice Q bs.length qc, .int .i64 top, .int .i64 leaf] w (LendOk (lenderS l r top ov bs leaf) w) := by
  have hh := heap_alloc_new w (.cells #[.int .i64 t, .int .i64 r, .int .i64 d, .slice A l.length cap, .slice B mb cb] 25)
  have hB0 := (Below.refl w.heap.size w).alloc (Nat.le_refl _) (.cells #[.int .i64 t, .int .i64 r, .int .i64 d, .slice A l.length cap, .slice B mb cb] 25)
  have hz0 : (w.alloc (.cells #[.int .i64 t, .int .i64 r, .int .i64 d, .slice A l.length cap, .slice B mb cb] 25)).heap.size = w.heap.size + 1 := by simp
  have HH := Lib.hid hh; have HB0 := Lib.hid hB0
  have HI := Lib.hid (fun (u : World) (h : Below w.heap.size w u) => (hI.below h).up h.size)
  have HOV := Lib.hid (fun (u : World) (h : Below w.heap.size w u) (y : Int) => has_c O oc w.heap.size ov y (by omega) u (hO.below h))
  have HQB := Lib.hid (fun (u : World) (h : Below w.heap.size w u) (y : Int) => has_c Q qc w.heap.size bs y (by omega) u (hQ.below h))
  have HLT := Lib.hid (fun (u : World) (h : Below w.heap.size w u) (by_ : Int) => reflets_c t r d A cap B mb cb l R O oc ov Q qc bs hol hql top leaf by_ u ((hI.below h).up h.size) ((hO.below h).more h.size) ((hQ.below h).more h.size))
  have HLE := Lib.hid (fun (u : World) (h : Below w.heap.size w u) => reflend_c A cap l (.inr R) 65 leaf (lend_len l leaf) u ((hI.below h).up h.size))
  have HLF := Lib.hid (fun (u : World) (h : Below w.heap.size w u) => refleaves_c A cap l (by have := R.le; omega) u ((hI.below h).up h.size))
  unfold Tr.RetB cfV at HLT
  unfold PathOk ListOk at HLE
  unfold ListOk at HLF
  have h64 := R.le
  have hleavesl := Nat.le_trans (leaves_len l) h64
  have hll := lend_len l leaf
  obtain ⟨lf, hlf⟩ : ∃ lf, lf = leafB l leaf := ⟨_, rfl⟩
  have HLD := Lib.hid ((leaf_dec' l leaf).trans hlf.symm)
  have HLF0 := Lib.hid hlf.symm
  clear hlf
  clear hB0 hh hI hO hQ R HQB
  cases lf with
  | false =>
    have HR := Lib.hid (lender_no (r := r) (top := top) (ov := ov) (bs := bs) HLF0.out)
    go_enter Tryz.func35, Tryz.ntmps35
    go_upto_region 1 with fail
    generalize World.alloc w _ = U at *
    obtain ⟨xb, hxb⟩ : ∃ xb, xb = w.heap.size := ⟨_, rfl⟩
    rw [← hxb] at HH ⊢
    have hxU : xb < U.heap.size := by omega
    have hxw : w.heap.size ≤ xb := by omega
    clear hxb hz0
    have x3 := cells_at HH.out 3 (.slice A l.length cap) rfl
    have HLU := Lib.hid (HLF.out U HB0.out)
    clear HLF
    generalize leavesS l = vs at *
    go_wp2_with (first
      | (go_at_call 28; (with_reducible refine (HLU.out).mono ?_); rintro e w1 ⟨A1, c1, rfl, hs1, hb1⟩; have hh := has_c A1 c1 w1.heap.size vs leaf (by omega) w1 hs1; rw [HLD.out] at hh; have HH1 := Lib.hid hh; have HB1 := Lib.hid hb1; clear hs1 hb1 hh)
      | (go_at_call 27; (with_reducible refine (HH1.out).mono ?_); rintro e w9 ⟨rfl, hw9⟩; subst w9))
    go_ret2
    exact ⟨by rw [HR.out]; rfl, HB0.out.trans (HB1.out.mono HB0.out.size)⟩
  | true =>
    go_enter Tryz.func35, Tryz.ntmps35
    go_upto_region 1 with fail
    generalize World.alloc w _ = U at *
    obtain ⟨xb, hxb⟩ : ∃ xb, xb = w.heap.size := ⟨_, rfl⟩
    rw [← hxb] at HH ⊢
    have hxU : xb < U.heap.size := by omega
    have hxw : w.heap.size ≤ xb := by omega
    clear hxb hz0
    have x3 := cells_at HH.out 3 (.slice A l.length cap) rfl
    have HLU := Lib.hid (HLF.out U HB0.out)
    clear HLF
    generalize leavesS l = vs at *
    go_upto_region 3 with (first
      | (go_at_call 28; (with_reducible refine (HLU.out).mono ?_); rintro e w1 ⟨A1, c1, rfl, hs1, hb1⟩; have hh := has_c A1 c1 w1.heap.size vs leaf (by omega) w1 hs1; rw [HLD.out] at hh; have HH1 := Lib.hid hh; have HB1 := Lib.hid hb1; clear hs1 hb1 hh)
      | (go_at_call 27; (with_reducible refine (HH1.out).mono ?_); rintro e w9 ⟨rfl, hw9⟩; subst w9))
    have hws := HB1.out.size
    have HW1 := Lib.hid (HB0.out.trans (HB1.out.mono HB0.out.size))
    have k0 := (HB1.out.block xb hxU).trans HH.out
    have HC1 := Lib.hid k0
    have hx1 : xb < w1.heap.size := Nat.lt_of_lt_of_le hxU hws
    clear x3 HH HLU HH1
    have hho := HOV.out w1 HW1.out leaf
    cases hov : decide (leaf ∈ ov) with
    | false =>
      have HR := Lib.hid (lender_own (r := r) (top := top) (bs := bs) HLF0.out (of_decide_eq_false hov))
      rw [hov] at hho
      have HHO := Lib.hid hho
      clear k0 hov hho
      go_wp2_with (go_at_call 27; (with_reducible refine (HHO.out).mono ?_); rintro e w9 ⟨rfl, hw9⟩; subst w9)
      go_ret2
      exact ⟨by rw [HR.out]; rfl, HW1.out⟩
    | true =>
      have HR := Lib.hid (lender_way (r := r) (top := top) (bs := bs) HLF0.out (of_decide_eq_true hov))
      rw [hov] at hho
      have HHO := Lib.hid hho
      have x3 := cells_at k0 3 (.slice A l.length cap) rfl
      have HLU := Lib.hid (HLE.out w1 HW1.out)
      clear k0 hov hho HLE
      obtain ⟨zs, hz⟩ : ∃ zs, zs = lendS l leaf := ⟨_, rfl⟩
      rw [← hz] at HLU hll HR
      clear hz
      go_wp2_with (first
        | (go_at_call 27; (with_reducible refine (HHO.out).mono ?_); rintro e w9 ⟨rfl, hw9⟩; subst w9)
        | (go_at_call 81; (with_reducible refine (HLU.out).mono ?_); rintro e w2 ⟨⟨A2, c2, rfl, hs2, hb2⟩, hpx⟩; have HS2 := Lib.hid hs2; have HB2 := Lib.hid hb2; clear hs2 hb2 hpx))
      have hws2 := HB2.out.size
      have HW2 := Lib.hid (HW1.out.trans (HB2.out.mono HW1.out.size))
      have HC2 := Lib.hid ((HB2.out.block xb hx1).trans HC1.out)
      have hx2 : xb < w2.heap.size := Nat.lt_of_lt_of_le hx1 hws2
      clear x3 HLU HHO
      go_loopg [13] zs.length (fun kx s13 wr => ∃ (k : Nat), s13 = .int .i64 k ∧ k ≤ zs.length ∧ zs.length - k ≤ kx ∧ Hid (Below w2.heap.size w2 wr) ∧ Hid (zs.find? (okB l r top ov bs leaf) = (zs.drop k).find? (okB l r top ov bs leaf)))
      case atStart => exact ⟨0, rfl, by omega, by omega, Lib.hid (Below.refl _ _), Lib.hid rfl⟩
      case round =>
        obtain ⟨k, rfl, hk, hkx, HW, HN⟩ := hrel
        have hwz := HW.out.size
        have HWW := Lib.hid (HW2.out.trans (HW.out.mono HW2.out.size))
        by_cases hlt : k < zs.length
        · have hltz : (k : Int) < (zs.length : Int) := by omega
          obtain ⟨a, u, rfl, hab, hu, hc⟩ := (HS2.out.below HW.out).cell1 (k := k) hlt
          unfold St.I at hu
          simp only [List.getElem?_map] at hu
          obtain ⟨y, hy0, rfl⟩ := Option.map_eq_some_iff.1 hu
          have HY := Lib.hid hy0
          have k0 := (HW.out.block xb hx2).trans HC2.out
          have f0 := cells_at k0 0 (.int .i64 t) rfl; have f1 := cells_at k0 1 (.int .i64 r) rfl; have f2 := cells_at k0 2 (.int .i64 d) rfl; have f3 := cells_at k0 3 (.slice A l.length cap) rfl; have f4 := cells_at k0 4 (.slice B mb cb) rfl
          have hxr : xb < wr.heap.size := by omega
          have hab2 : (a.add k).block < wr.heap.size := by rw [add_block]; omega
          have HD := Lib.hid ((Below.refl wr.heap.size wr).drew)
          have hab3 : a.block < wr.heap.size := by omega
          have HC := Lib.hid hc
          have HSB := Lib.hid (show ∀ q, (q = xb ∨ q = a.block) → q < wr.heap.size from fun q hq => by rcases hq with e | e <;> omega)
          have HOY := Lib.hid (fun (u : World) (h : Below wr.heap.size wr u) => HOV.out u (HWW.out.trans (h.mono HWW.out.size)) y)
          have HLY := Lib.hid (fun (u : World) (h : Below wr.heap.size wr u) => HLT.out u (HWW.out.trans (h.mono HWW.out.size)) y)
          clear hu hy0 k0
          cases hov : decide (y ∈ ov) with
          | true =>
            rw [hov] at HOY
            have HT := Lib.hid (HN.out.trans (find_skip HY.out (ok_over hov)))
            clear hov
            go_upto_region 9 with fail
            refine Lx.wp_region_Y 18 (fun w' => ∃ z, w' = Lx.kept (fun q => q = xb ∨ q = a.block) wr.drew z) [5] (by kernel_rfl) (by kernel_rfl) (Lx.kept_of (Lx.Keeps.refl _ _)) ?_
            simp only [List.take_succ_cons, List.take_zero, List.drop_succ_cons, List.drop_zero]
            repeat (refine Lx.wpX_step (fun K hK => ?_); first | (refine Lx.opX_free (by rfl) (by rfl) (by rfl) ?_; go_big_quiet_op; refine hK _ _ ?_; clear hK K) | (refine Lx.opX_nil (by rfl) (by rfl) (by rfl) (by rfl) ?_; refine hK _ _ ?_; clear hK K; simp only [Act.put, List.setIfInBounds_toArray, List.set_cons_succ, List.set_cons_zero]) | (refine Lx.opX_skip (by rfl) ?_; refine hK _ _ ?_; clear hK K; simp only [Act.put, List.setIfInBounds_toArray, List.set_cons_succ, List.set_cons_zero]))
            refine Lx.wpX_step (fun K hK => ?_)
            refine Lx.opX_law (by rfl) (by rfl) ?_
            go_wp2_with (go_at_call 27; (with_reducible refine (HOY.out _ HD.out).mono ?_); rintro e w5 ⟨rfl, hw5⟩; have hbk : Below wr.heap.size wr w5 := hw5 ▸ HD.out; have HB5 := Lib.hid hbk; clear hw5 hbk)
            refine Lx.nq_mk (Lx.kept_of (fun y hy => HB5.out.block y (HSB.out y hy))) (hK _ _ ?_)
            clear hK K
            repeat (refine Lx.wpX_step (fun K hK => ?_); first | (refine Lx.opX_free (by rfl) (by rfl) (by rfl) ?_; go_big_quiet_op; refine hK _ _ ?_; clear hK K) | (refine Lx.opX_nil (by rfl) (by rfl) (by rfl) (by rfl) ?_; refine hK _ _ ?_; clear hK K; simp only [Act.put, List.setIfInBounds_toArray, List.set_cons_succ, List.set_cons_zero]) | (refine Lx.opX_skip (by rfl) ?_; refine hK _ _ ?_; clear hK K; simp only [Act.put, List.setIfInBounds_toArray, List.set_cons_succ, List.set_cons_zero]))
            refine Lx.wpX_nil ?_
            have HBK := HB5
            clear f0 f1 f2 f3 f4 hc
            go_wp2_with fail
            go_roundg (zs.length - (k + 1))
            case measure => omega
            case rel => exact ⟨k + 1, by go_num, by omega, by omega, Lib.hid (HW.out.trans (HBK.out.mono hwz)), HT⟩
          | false =>
            rw [hov] at HOY
            have HOK := Lib.hid (ok_free (l := l) (r := r) (top := top) (bs := bs) (leaf := leaf) hov)
            obtain ⟨q, hq⟩ : ∃ q, q = letsB l r top ov bs leaf y := ⟨_, rfl⟩
            rw [← hq] at HLY HOK
            clear hov hq
            cases q with
            | false =>
              have HT := Lib.hid (HN.out.trans (find_skip HY.out HOK.out))
              go_upto_region 9 with fail
              refine Lx.wp_region_Y 18 (fun w' => ∃ z, w' = Lx.kept (fun q => q = xb ∨ q = a.block) wr.drew z) [5, 17] (by kernel_rfl) (by kernel_rfl) (Lx.kept_of (Lx.Keeps.refl _ _)) ?_
              simp only [List.take_succ_cons, List.take_zero, List.drop_succ_cons, List.drop_zero]
              repeat (refine Lx.wpX_step (fun K hK => ?_); first | (refine Lx.opX_free (by rfl) (by rfl) (by rfl) ?_; go_big_quiet_op; refine hK _ _ ?_; clear hK K) | (refine Lx.opX_nil (by rfl) (by rfl) (by rfl) (by rfl) ?_; refine hK _ _ ?_; clear hK K; simp only [Act.put, List.setIfInBounds_toArray, List.set_cons_succ, List.set_cons_zero]) | (refine Lx.opX_skip (by rfl) ?_; refine hK _ _ ?_; clear hK K; simp only [Act.put, List.setIfInBounds_toArray, List.set_cons_succ, List.set_cons_zero]))
              refine Lx.wpX_step (fun K hK => ?_)
              refine Lx.opX_law (by rfl) (by rfl) ?_
              go_wp2_with (go_at_call 27; (with_reducible refine (HOY.out _ HD.out).mono ?_); rintro e w5 ⟨rfl, hw5⟩; have hbk : Below wr.heap.size wr w5 := hw5 ▸ HD.out; have HB5 := Lib.hid hbk; clear hw5 hbk)
              refine Lx.nq_mk (Lx.kept_of (fun y hy => HB5.out.block y (HSB.out y hy))) (hK _ _ ?_)
              clear hK K
              repeat (refine Lx.wpX_step (fun K hK => ?_); first | (refine Lx.opX_free (by rfl) (by rfl) (by rfl) ?_; go_big_quiet_op; refine hK _ _ ?_; clear hK K) | (refine Lx.opX_nil (by rfl) (by rfl) (by rfl) (by rfl) ?_; refine hK _ _ ?_; clear hK K; simp only [Act.put, List.setIfInBounds_toArray, List.set_cons_succ, List.set_cons_zero]) | (refine Lx.opX_skip (by rfl) ?_; refine hK _ _ ?_; clear hK K; simp only [Act.put, List.setIfInBounds_toArray, List.set_cons_succ, List.set_cons_zero]))
              refine Lx.wpX_step (fun K hK => ?_)
              refine Lx.opX_law (by rfl) (by rfl) ?_
              go_wp2_with (go_at_call 82; (with_reducible refine (HLY.out _ HB5.out).mono ?_); rintro e w6 ⟨rfl, hb6⟩; have hbk := HB5.out.trans (hb6.mono HB5.out.size); have HB6 := Lib.hid hbk; clear hb6 hbk)
              refine Lx.nq_mk (Lx.kept_of (fun y hy => HB6.out.block y (HSB.out y hy))) (hK _ _ ?_)
              clear hK K
              repeat (refine Lx.wpX_step (fun K hK => ?_); first | (refine Lx.opX_free (by rfl) (by rfl) (by rfl) ?_; go_big_quiet_op; refine hK _ _ ?_; clear hK K) | (refine Lx.opX_nil (by rfl) (by rfl) (by rfl) (by rfl) ?_; refine hK _ _ ?_; clear hK K; simp only [Act.put, List.setIfInBounds_toArray, List.set_cons_succ, List.set_cons_zero]) | (refine Lx.opX_skip (by rfl) ?_; refine hK _ _ ?_; clear hK K; simp only [Act.put, List.setIfInBounds_toArray, List.set_cons_succ, List.set_cons_zero]))
              refine Lx.wpX_nil ?_
              have HBK := HB6
              clear f0 f1 f2 f3 f4 hc
              go_wp2_with fail
              go_roundg (zs.length - (k + 1))
              case measure => omega
              case rel => exact ⟨k + 1, by go_num, by omega, by omega, Lib.hid (HW.out.trans (HBK.out.mono hwz)), HT⟩
            | true =>
              have HT := Lib.hid (HN.out.trans (find_got HY.out HOK.out))
              go_upto_region 9 with fail
              refine Lx.wp_region_Y 18 (fun w' => ∃ z, w' = Lx.kept (fun q => q = xb ∨ q = a.block) wr.drew z) [5, 17] (by kernel_rfl) (by kernel_rfl) (Lx.kept_of (Lx.Keeps.refl _ _)) ?_
              simp only [List.take_succ_cons, List.take_zero, List.drop_succ_cons, List.drop_zero]
              repeat (refine Lx.wpX_step (fun K hK => ?_); first | (refine Lx.opX_free (by rfl) (by rfl) (by rfl) ?_; go_big_quiet_op; refine hK _ _ ?_; clear hK K) | (refine Lx.opX_nil (by rfl) (by rfl) (by rfl) (by rfl) ?_; refine hK _ _ ?_; clear hK K; simp only [Act.put, List.setIfInBounds_toArray, List.set_cons_succ, List.set_cons_zero]) | (refine Lx.opX_skip (by rfl) ?_; refine hK _ _ ?_; clear hK K; simp only [Act.put, List.setIfInBounds_toArray, List.set_cons_succ, List.set_cons_zero]))
              refine Lx.wpX_step (fun K hK => ?_)
              refine Lx.opX_law (by rfl) (by rfl) ?_
              go_wp2_with (go_at_call 27; (with_reducible refine (HOY.out _ HD.out).mono ?_); rintro e w5 ⟨rfl, hw5⟩; have hbk : Below wr.heap.size wr w5 := hw5 ▸ HD.out; have HB5 := Lib.hid hbk; clear hw5 hbk)
              refine Lx.nq_mk (Lx.kept_of (fun y hy => HB5.out.block y (HSB.out y hy))) (hK _ _ ?_)
              clear hK K
              repeat (refine Lx.wpX_step (fun K hK => ?_); first | (refine Lx.opX_free (by rfl) (by rfl) (by rfl) ?_; go_big_quiet_op; refine hK _ _ ?_; clear hK K) | (refine Lx.opX_nil (by rfl) (by rfl) (by rfl) (by rfl) ?_; refine hK _ _ ?_; clear hK K; simp only [Act.put, List.setIfInBounds_toArray, List.set_cons_succ, List.set_cons_zero]) | (refine Lx.opX_skip (by rfl) ?_; refine hK _ _ ?_; clear hK K; simp only [Act.put, List.setIfInBounds_toArray, List.set_cons_succ, List.set_cons_zero]))
              refine Lx.wpX_step (fun K hK => ?_)
              refine Lx.opX_law (by rfl) (by rfl) ?_
              go_wp2_with (go_at_call 82; (with_reducible refine (HLY.out _ HB5.out).mono ?_); rintro e w6 ⟨rfl, hb6⟩; have hbk := HB5.out.trans (hb6.mono HB5.out.size); have HB6 := Lib.hid hbk; clear hb6 hbk)
              refine Lx.nq_mk (Lx.kept_of (fun y hy => HB6.out.block y (HSB.out y hy))) (hK _ _ ?_)
              clear hK K
              repeat (refine Lx.wpX_step (fun K hK => ?_); first | (refine Lx.opX_free (by rfl) (by rfl) (by rfl) ?_; go_big_quiet_op; refine hK _ _ ?_; clear hK K) | (refine Lx.opX_nil (by rfl) (by rfl) (by rfl) (by rfl) ?_; refine hK _ _ ?_; clear hK K; simp only [Act.put, List.setIfInBounds_toArray, List.set_cons_succ, List.set_cons_zero]) | (refine Lx.opX_skip (by rfl) ?_; refine hK _ _ ?_; clear hK K; simp only [Act.put, List.setIfInBounds_toArray, List.set_cons_succ, List.set_cons_zero]))
              refine Lx.wpX_nil ?_
              have HBK := HB6
              have g0 := (HBK.out.cell (p := a.add k) hab2).trans HC.out
              clear f0 f1 f2 f3 f4 hc
              go_wp2_with fail
              go_ret2
              exact ⟨by rw [HR.out, HT.out]; rfl, HWW.out.trans (HBK.out.mono HWW.out.size)⟩
        · have hltz : ¬ (k : Int) < (zs.length : Int) := by omega
          obtain rfl : k = zs.length := by omega
          have HT : Hid (zs.find? (okB l r top ov bs leaf) = none) := Lib.hid (by have := HN.out; rw [List.drop_length] at this; rw [this]; rfl)
          go_wp2
          go_ret2
          exact ⟨by rw [HR.out, HT.out]; rfl, HWW.out⟩
theorem able_no {l : List Cls} {r top : Int} {ov bs : List Int} {i : Int} (h : lenderS l r top ov bs i = none) : ableB l r top ov bs i = false := by unfold ableB; rw [h]; rfl
theorem able_is {l : List Cls} {r top : Int} {ov bs : List Int} {i x : Int} {q : Bool} (h : lenderS l r top ov bs i = some x) (hq : decide (i ∈ bs) = q) : ableB l r top ov bs i = q := by unfold ableB; rw [h, hq]; rfl
set_option maxRecDepth 20000 in
set_option maxHeartbeats 2000000 in
theorem refable_c (t r d : Int) (A : Option Addr) (cap : Nat) (B : Option Addr) (mb cb : Nat) (l : List Cls) (R : Tp.Tree l) (O : Option Addr) (oc : Nat) (ov : List Int) (Q : Option Addr) (qc : Nat) (bs : List Int) (hol : ov.length ≤ 70) (hql : bs.length ≤ 70) (top : Int) (w : World)
    (hI : Holds w.heap.size w (.slice A l.length cap) l) (hO : Sl w w.heap.size 1 O ov.length (St.I ov)) (hQ : Sl w w.heap.size 1 Q bs.length (St.I bs)) :
    Calls Tryz.prog 37 #[cfV t r d (.slice A l.length cap) (.slice B mb cb), .slice O ov.length oc, .slice Q bs.length qc, .int .i64 top] w (ListOk (ableS l r top ov bs) w) := by
  have hh := heap_alloc_new w (.cells #[.int .i64 t, .int .i64 r, .int .i64 d, .slice A l.length cap, .slice B mb cb] 25)
  have hB0 := (Below.refl w.heap.size w).alloc (Nat.le_refl _) (.cells #[.int .i64 t, .int .i64 r, .int .i64 d, .slice A l.length cap, .slice B mb cb] 25)
  have hz0 : (w.alloc (.cells #[.int .i64 t, .int .i64 r, .int .i64 d, .slice A l.length cap, .slice B mb cb] 25)).heap.size = w.heap.size + 1 := by simp
  have HH := Lib.hid hh; have HB0 := Lib.hid hB0
  have HI := Lib.hid (fun (u : World) (h : Below w.heap.size w u) => (hI.below h).up h.size)
  have HOV := Lib.hid (fun (u : World) (h : Below w.heap.size w u) (y : Int) => has_c O oc w.heap.size ov y (by omega) u (hO.below h))
  have HQB := Lib.hid (fun (u : World) (h : Below w.heap.size w u) (y : Int) => has_c Q qc w.heap.size bs y (by omega) u (hQ.below h))
  have HLT := Lib.hid (fun (u : World) (h : Below w.heap.size w u) (leaf : Int) => reflender_c t r d A cap B mb cb l R O oc ov Q qc bs hol hql top leaf u ((hI.below h).up h.size) ((hO.below h).more h.size) ((hQ.below h).more h.size))
  have HLF := Lib.hid (fun (u : World) (h : Below w.heap.size w u) => refleaves_c A cap l (by have := R.le; omega) u ((hI.below h).up h.size))
  unfold LendOk cfV at HLT
  unfold ListOk at HLF
  have hleavesl := Nat.le_trans (leaves_len l) R.le
  have HPL : Hid (∀ k : Nat, (ableP l r top ov bs k).length ≤ k) := Lib.hid (fun k => ableP_len r top ov bs k)
  clear hB0 hh hI hO hQ R HOV
  go_enter Tryz.func37, Tryz.ntmps37
  go_upto_region 1 with fail
  generalize World.alloc w _ = U at *
  obtain ⟨xb, hxb⟩ : ∃ xb, xb = w.heap.size := ⟨_, rfl⟩
  rw [← hxb] at HH ⊢
  have hxU : xb < U.heap.size := by omega
  have hxw : w.heap.size ≤ xb := by omega
  clear hxb hz0
  have x3 := cells_at HH.out 3 (.slice A l.length cap) rfl
  have HLU := Lib.hid (HLF.out U HB0.out)
  clear HLF
  obtain ⟨zs, hz⟩ : ∃ zs, zs = leavesS l := ⟨_, rfl⟩
  have HZ := Lib.hid hz
  rw [← hz] at HLU hleavesl
  clear hz
  go_wp2_with (go_at_call 28; (with_reducible refine (HLU.out).mono ?_); rintro e w1 ⟨A1, c1, rfl, hs1, hb1⟩; have HS1 := Lib.hid hs1; have HB1 := Lib.hid hb1; clear hs1 hb1)
  have hws := HB1.out.size
  have HW1 := Lib.hid (HB0.out.trans (HB1.out.mono HB0.out.size))
  have HC1 := Lib.hid ((HB1.out.block xb hxU).trans HH.out)
  have hx1 : xb < w1.heap.size := Nat.lt_of_lt_of_le hxU hws
  clear x3 HH HLU
  go_loopg [9, 11] zs.length (fun kx s9 s11 wr => ∃ (k : Nat) (B9 : Option Addr) (c9 : Nat), s11 = .int .i64 k ∧ s9 = .slice B9 (ableP l r top ov bs k).length c9 ∧ k ≤ zs.length ∧ zs.length - k ≤ kx ∧ Hid (wr.ownsRow w1.heap.size 3 1 s9 (ableP l r top ov bs k).length (St.I (ableP l r top ov bs k))) ∧ Hid (Below w1.heap.size w1 wr))
  case atStart => exact ⟨0, none, 0, rfl, rfl, by omega, by omega, Lib.hid (World.ownsRow_nil ..), Lib.hid (Below.refl _ _)⟩
  case round =>
    obtain ⟨k, B9, c9, rfl, rfl, hk, hkx, HO, HW⟩ := hrel
    have hwz := HW.out.size
    by_cases hlt : k < zs.length
    · have hltz : (k : Int) < (zs.length : Int) := by omega
      obtain ⟨a, u, rfl, hab, hu, hc⟩ := (HS1.out.below HW.out).cell1 (k := k) hlt
      unfold St.I at hu
      simp only [List.getElem?_map] at hu
      obtain ⟨y, hy0, rfl⟩ := Option.map_eq_some_iff.1 hu
      rw [HZ.out] at hy0
      have HY := Lib.hid hy0
      have HWW := Lib.hid (HW1.out.trans (HW.out.mono HW1.out.size))
      have hol := HPL.out k
      have k0 := (HW.out.block xb hx1).trans HC1.out
      have f0 := cells_at k0 0 (.int .i64 t) rfl; have f1 := cells_at k0 1 (.int .i64 r) rfl; have f2 := cells_at k0 2 (.int .i64 d) rfl; have f3 := cells_at k0 3 (.slice A l.length cap) rfl; have f4 := cells_at k0 4 (.slice B mb cb) rfl
      have hxr : xb < wr.heap.size := by omega
      have hab2 : (a.add k).block < wr.heap.size := by rw [add_block]; omega
      have HLY := Lib.hid (fun (u : World) (h : Below wr.heap.size wr u) => HLT.out u (HWW.out.trans (h.mono HWW.out.size)) y)
      have HD := Lib.hid ((Below.refl wr.heap.size wr).drew)
      have HC := Lib.hid hc
      obtain ⟨o, ho⟩ : ∃ o, o = lenderS l r top ov bs y := ⟨_, rfl⟩
      rw [← ho] at HLY
      have HOO := Lib.hid ho
      clear hu hy0 k0 ho
      cases o with
      | none =>
        have HTK := Lib.hid (ableP_out HY.out (able_no HOO.out.symm))
        simp only [Option.getD_none, Option.isSome_none] at HLY
        go_upto_region 6 with fail
        go_region_held3 (fun w' => w'.cell? ⟨xb, 0, none⟩ = some (.int .i64 t) ∧ w'.cell? ⟨xb, 1, none⟩ = some (.int .i64 r) ∧ w'.cell? ⟨xb, 2, none⟩ = some (.int .i64 d) ∧ w'.cell? ⟨xb, 3, none⟩ = some (.slice A l.length cap) ∧ w'.cell? ⟨xb, 4, none⟩ = some (.slice B mb cb) ∧ w'.cell? (a.add k) = some (.int .i64 y)) (first | (refine ⟨?_, ?_, ?_, ?_, ?_, ?_⟩ <;> (refine (Below.cell (w := wr) (B := wr.heap.size) ?hb ?hp).trans (by assumption); (case hp => assumption); (case hb => (repeat' (first | assumption | exact Below.refl _ _ | refine Below.drew ?_))))) | (all_goals (refine (Below.cell (w := wr) (B := wr.heap.size) ?hb ?hp).trans (by assumption); (case hp => assumption); (case hb => (repeat' (first | assumption | exact Below.refl _ _ | refine Below.drew ?_)))))) (first | (go_at_call 35; (with_reducible refine (HLY.out _ HD.out).mono ?_); rintro e w3 ⟨rfl, hb3⟩; have hbK := HD.out.trans (hb3.mono HD.out.size); have hbKs := hbK.size))
        have HBK := Lib.hid hbK
        have HO3 := Lib.hid (own_same (w' := w3) HO.out (fun q hq => HBK.out.block q (HO.out.lt q hq).2))
        have HW3 := Lib.hid (HW.out.trans (HBK.out.mono hwz))
        clear f0 f1 f2 f3 f4 hc hbK
        go_wp2_with fail
        go_roundg (zs.length - (k + 1))
        case measure => omega
        case rel => exact ⟨k + 1, B9, c9, by go_num, by rw [HTK.out], by omega, by omega, Lib.hid (by rw [HTK.out]; exact HO3.out), HW3⟩
      | some ln =>
        simp only [Option.getD_some, Option.isSome_some] at HLY
        have hqb := HQB.out
        have HQY := Lib.hid (fun (u : World) (h : Below w.heap.size w u) => hqb u h y)
        clear hqb
        cases hyb : decide (y ∈ bs) with
        | true =>
          rw [hyb] at HQY
          have HTK := Lib.hid (ableP_in HY.out (able_is HOO.out.symm hyb))
          clear hyb
          generalize ableP l r top ov bs k = os at *
          go_upto_region 6 with fail
          go_region_held3 (fun w' => w'.cell? ⟨xb, 0, none⟩ = some (.int .i64 t) ∧ w'.cell? ⟨xb, 1, none⟩ = some (.int .i64 r) ∧ w'.cell? ⟨xb, 2, none⟩ = some (.int .i64 d) ∧ w'.cell? ⟨xb, 3, none⟩ = some (.slice A l.length cap) ∧ w'.cell? ⟨xb, 4, none⟩ = some (.slice B mb cb) ∧ w'.cell? (a.add k) = some (.int .i64 y)) (first | (refine ⟨?_, ?_, ?_, ?_, ?_, ?_⟩ <;> (refine (Below.cell (w := wr) (B := wr.heap.size) ?hb ?hp).trans (by assumption); (case hp => assumption); (case hb => (repeat' (first | assumption | exact Below.refl _ _ | refine Below.drew ?_))))) | (all_goals (refine (Below.cell (w := wr) (B := wr.heap.size) ?hb ?hp).trans (by assumption); (case hp => assumption); (case hb => (repeat' (first | assumption | exact Below.refl _ _ | refine Below.drew ?_)))))) (first | (go_at_call 35; (with_reducible refine (HLY.out _ HD.out).mono ?_); rintro e w3 ⟨rfl, hb3⟩; have hbK := HD.out.trans (hb3.mono HD.out.size); have hbKs := hbK.size))
          have HBK := Lib.hid hbK
          have HO3 := Lib.hid (own_same (w' := w3) HO.out (fun q hq => HBK.out.block q (HO.out.lt q hq).2))
          have HW3 := Lib.hid (HW.out.trans (HBK.out.mono hwz))
          have hw3 : w1.heap.size ≤ w3.heap.size := HW3.out.size
          have g0 := (HBK.out.cell (p := a.add k) hab2).trans HC.out
          have HWW3 := Lib.hid (HW1.out.trans (HW3.out.mono HW1.out.size))
          clear f0 f1 f2 f3 f4 hc hbK
          go_wp2_with (first
            | (go_at_call 27; (with_reducible refine (HQY.out _ HWW3.out).mono ?_); rintro e w9 ⟨rfl, hw9⟩; subst w9)
            | ((at_builtin; go_must (refine wpList_push_at (by rfl) _ _ 38 (by rfl) Tryz.underlying38 w1.heap.size y w3 _ os (by rfl) HO3.out (by rfl) (by omega) (by omega) ?_)); intro g cap7 w7 hown7 hg7 hl7; have HO7 := Lib.hid hown7; have HB7 := Lib.hid (push_below HW3.out (Nat.le_refl _) (by omega) HO3.out hg7); clear hown7 hg7 hl7))
          go_roundg (zs.length - (k + 1))
          case measure => omega
          case rel => exact ⟨k + 1, some ⟨g, 0, none⟩, cap7, by go_num, by rw [HTK.out]; simp, by omega, by omega, Lib.hid (by rw [HTK.out]; have := HO7.out; simpa [Sv.val] using this), HB7⟩
        | false =>
          rw [hyb] at HQY
          have HTK := Lib.hid (ableP_out HY.out (able_is HOO.out.symm hyb))
          clear hyb
          go_upto_region 6 with fail
          go_region_held3 (fun w' => w'.cell? ⟨xb, 0, none⟩ = some (.int .i64 t) ∧ w'.cell? ⟨xb, 1, none⟩ = some (.int .i64 r) ∧ w'.cell? ⟨xb, 2, none⟩ = some (.int .i64 d) ∧ w'.cell? ⟨xb, 3, none⟩ = some (.slice A l.length cap) ∧ w'.cell? ⟨xb, 4, none⟩ = some (.slice B mb cb) ∧ w'.cell? (a.add k) = some (.int .i64 y)) (first | (refine ⟨?_, ?_, ?_, ?_, ?_, ?_⟩ <;> (refine (Below.cell (w := wr) (B := wr.heap.size) ?hb ?hp).trans (by assumption); (case hp => assumption); (case hb => (repeat' (first | assumption | exact Below.refl _ _ | refine Below.drew ?_))))) | (all_goals (refine (Below.cell (w := wr) (B := wr.heap.size) ?hb ?hp).trans (by assumption); (case hp => assumption); (case hb => (repeat' (first | assumption | exact Below.refl _ _ | refine Below.drew ?_)))))) (first | (go_at_call 35; (with_reducible refine (HLY.out _ HD.out).mono ?_); rintro e w3 ⟨rfl, hb3⟩; have hbK := HD.out.trans (hb3.mono HD.out.size); have hbKs := hbK.size))
          have HBK := Lib.hid hbK
          have HO3 := Lib.hid (own_same (w' := w3) HO.out (fun q hq => HBK.out.block q (HO.out.lt q hq).2))
          have HW3 := Lib.hid (HW.out.trans (HBK.out.mono hwz))
          have g0 := (HBK.out.cell (p := a.add k) hab2).trans HC.out
          have HWW3 := Lib.hid (HW1.out.trans (HW3.out.mono HW1.out.size))
          clear f0 f1 f2 f3 f4 hc hbK
          go_wp2_with (go_at_call 27; (with_reducible refine (HQY.out _ HWW3.out).mono ?_); rintro e w9 ⟨rfl, hw9⟩; subst w9)
          go_roundg (zs.length - (k + 1))
          case measure => omega
          case rel => exact ⟨k + 1, B9, c9, by go_num, by rw [HTK.out], by omega, by omega, Lib.hid (by rw [HTK.out]; exact HO3.out), HW3⟩
    · have hltz : ¬ (k : Int) < (zs.length : Int) := by omega
      obtain rfl : k = zs.length := by omega
      have HTK : Hid (ableP l r top ov bs zs.length = ableS l r top ov bs) := Lib.hid (by rw [HZ.out]; exact ableP_all r top ov bs)
      rw [HTK.out] at HO ⊢
      go_wp2
      go_ret
      exact ⟨B9, c9, rfl, Sl.of_own HO.out, HW1.out.trans (HW.out.mono HW1.out.size)⟩
end Go.Proofs.YtpchhfhmopmagaaGreat.Le

/- lend.Wanting, the bank. -/
namespace Go.Proofs.YtpchhfhmopmagaaGreat.Le
open Go.RowKit Go.Maps Go.Proofs.YtpchhfhmopmagaaGreat.Wd Go.Proofs.YtpchhfhmopmagaaGreat.Li Go.Proofs.YtpchhfhmopmagaaGreat.Mp Go.Proofs.YtpchhfhmopmagaaGreat.Tp Go.Proofs.YtpchhfhmopmagaaGreat.Tr Go.Proofs.YtpchhfhmopmagaaGreat.Cl Go.Proofs.YtpchhfhmopmagaaGreat.So Go.Proofs.YtpchhfhmopmagaaGreat.Sw Go.Proofs.YtpchhfhmopmagaaGreat.Pa Go.Proofs.YtpchhfhmopmagaaGreat.Cf Go.Proofs.YtpchhfhmopmagaaGreat.Fi Go.Proofs.YtpchhfhmopmagaaGreat.Ga Go.Proofs.YtpchhfhmopmagaaGreat.Qu
attribute [local go_sem] run_store_float

set_option maxRecDepth 20000 in
theorem pred_c (xb : Nat) (o tp : Value) (Q : Option Addr) (qc : Nat) (bs : List Int) (hql : bs.length ≤ 70) (w : World) (hx : w.heap[xb]? = some (.cells #[o, .slice Q bs.length qc, tp] 62 (0, 0))) (hQ : Sl w w.heap.size 1 Q bs.length (St.I bs)) : PredB 85 (.pointer (some ⟨xb, 0, none⟩)) (fun i => decide (i ∈ bs)) w := fun W x hb => by
  have c1 := cells_at ((hb.block xb (Array.getElem?_eq_some_iff.1 hx).1).trans hx) 1 (.slice Q bs.length qc) rfl
  have HC := Lib.hid (contains_c Q qc bs x (by omega) w.heap.size W (hQ.below hb))
  clear hx hQ hb
  go_enter Tryz.func85, Tryz.ntmps85
  go_wp2_with (go_at_call 80; (with_reducible refine (HC.out).mono ?_); rintro e w' ⟨rfl, rfl⟩)
  go_ret
  exact ⟨rfl, Below.refl _ _⟩
theorem want_over' {l : List Cls} {ov bs : List Int} {id : Int} (h : decide (id ∈ ov) = true) : wantB l ov bs id = false := by unfold wantB; rw [h]; rfl
theorem want_free' {l : List Cls} {ov bs : List Int} {id : Int} (h : decide (id ∈ ov) = false) : wantB l ov bs id = (belowS l id).any (fun i => decide (i ∈ bs)) := by unfold wantB busyB; rw [h]; rfl
theorem eg_pred : ∀ args w, (callFunc 85 args).run Tryz.prog w = .ok (.enter 85 args) w := enters_of Tryz.func85 (by kernel_rfl) rfl
set_option maxRecDepth 20000 in
set_option maxHeartbeats 2000000 in
theorem wanting_c (t r d : Int) (l : List Cls) (fs : List F) (R : Tp.Tree l) (S : Nat) (O : Option Addr) (oc : Nat) (ov : List Int) (Q : Option Addr) (qc : Nat) (bs : List Int) (hol : ov.length ≤ 70) (hql : bs.length ≤ 70) (top : Int) (w : World)
    (hS : SetAt w w.heap.size S t r d l fs) (hO : Sl w w.heap.size 1 O ov.length (St.I ov)) (hQ : Sl w w.heap.size 1 Q bs.length (St.I bs)) :
    Calls Tryz.prog 38 #[.pointer (some ⟨S, 0, none⟩), .agg #[.slice O ov.length oc, .slice Q bs.length qc, .int .i64 top]] w (ListOk (wantS l ov bs) w) := by
  obtain ⟨T, Tb, q, A1, c1, A2, c2, hSl, hSc, hTr, _⟩ := hS
  have h64 := R.le
  have hG := R.good
  have hh := heap_alloc_new w (.cells #[.slice O ov.length oc, .slice Q bs.length qc, .int .i64 top] 62)
  have hB0 := (Below.refl w.heap.size w).alloc (Nat.le_refl _) (.cells #[.slice O ov.length oc, .slice Q bs.length qc, .int .i64 top] 62)
  have hz0 : (w.alloc (.cells #[.slice O ov.length oc, .slice Q bs.length qc, .int .i64 top] 62)).heap.size = w.heap.size + 1 := by simp
  have HH := Lib.hid hh; have HB0 := Lib.hid hB0
  have HTR := Lib.hid (fun (u : World) (h : Below w.heap.size w u) => (hTr.below h).up h.size)
  have HCO := Lib.hid (fun (u : World) (h : Below w.heap.size w u) (y : Int) => contains_c O oc ov y (by omega) w.heap.size u (hO.below h))
  have HQ := Lib.hid (fun (u : World) (h : Below w.heap.size w u) => (hQ.below h).more h.size)
  have HSC := Lib.hid hSc; have HR := Lib.hid R
  have HPL : Hid (∀ k : Nat, (wantP l ov bs k).length ≤ k) := Lib.hid (fun k => wantP_len ov bs k)
  have hIL : (idsS l).length ≤ 64 := by rw [idsS_len]; exact h64
  have HID := Lib.hid (fun (u : World) (h : Below w.heap.size w u) => tids_c T l h64 u ((hTr.below h).up h.size))
  unfold ListOk at HID
  rw [show ids (sortC l) = idsS l from rfl] at HID
  clear hh hB0 hTr hO hQ hSc R
  obtain ⟨zs, hz⟩ : ∃ zs, zs = idsS l := ⟨_, rfl⟩
  have HZ := Lib.hid hz
  rw [← hz] at HID hIL
  clear hz
  go_enter Tryz.func38, Tryz.ntmps38
  go_upto_region 1 with fail
  generalize World.alloc w _ = U at *
  obtain ⟨xb, hxb⟩ : ∃ xb, xb = w.heap.size := ⟨_, rfl⟩
  rw [← hxb] at HH ⊢
  have hxU : xb < U.heap.size := by omega
  have hxw : w.heap.size ≤ xb := by omega
  clear hxb hz0
  have s0 := cells_at ((HB0.out.block S hSl).trans HSC.out) 0 (.pointer (some ⟨T, 0, none⟩)) rfl
  go_wp2_with (first
    | (go_at_call 19; (with_reducible refine (settree_c _ _ _ s0).mono ?_); rintro e w' ⟨rfl, rfl⟩)
    | (go_at_call 23; (with_reducible refine (HID.out _ HB0.out).mono ?_); rintro e w1 ⟨A3, c3, rfl, hs1, hb1⟩; have HS1 := Lib.hid hs1; have HB1 := Lib.hid hb1; clear hs1 hb1))
  have hws := HB1.out.size
  have HW1 := Lib.hid (HB0.out.trans (HB1.out.mono HB0.out.size))
  have HC1 := Lib.hid ((HB1.out.block xb hxU).trans HH.out)
  have hx1 : xb < w1.heap.size := Nat.lt_of_lt_of_le hxU hws
  clear s0 HID HH
  go_loopg [5, 14] zs.length (fun kx s5 s14 wr => ∃ (k : Nat) (B9 : Option Addr) (c9 : Nat), s14 = .int .i64 k ∧ s5 = .slice B9 (wantP l ov bs k).length c9 ∧ k ≤ zs.length ∧ zs.length - k ≤ kx ∧ Hid (wr.ownsRow w1.heap.size 3 1 s5 (wantP l ov bs k).length (St.I (wantP l ov bs k))) ∧ Hid (Below w1.heap.size w1 wr))
  case atStart => exact ⟨0, none, 0, rfl, rfl, by omega, by omega, Lib.hid (World.ownsRow_nil ..), Lib.hid (Below.refl _ _)⟩
  case round =>
    obtain ⟨k, B9, c9, rfl, rfl, hk, hkx, HO, HW⟩ := hrel
    have hwz := HW.out.size
    by_cases hlt : k < zs.length
    · have hltz : (k : Int) < (zs.length : Int) := by omega
      obtain ⟨a, u, rfl, hab, hu, hc⟩ := (HS1.out.below HW.out).cell1 (k := k) hlt
      unfold St.I at hu
      simp only [List.getElem?_map] at hu
      obtain ⟨y, hy0, rfl⟩ := Option.map_eq_some_iff.1 hu
      rw [HZ.out] at hy0
      have hwf := (Fit.wf (.inr HR.out) (idsS_get hy0) : (Lit.int .i64 y).wf = true)
      have HY := Lib.hid hy0
      have HWW := Lib.hid (HW1.out.trans (HW.out.mono HW1.out.size))
      have hol := HPL.out k
      have k0 := (HW.out.block xb hx1).trans HC1.out
      have HK0 := Lib.hid k0
      have f0 := cells_at k0 0 (.slice O ov.length oc) rfl; have f1 := cells_at k0 1 (.slice Q bs.length qc) rfl
      have hxr : xb < wr.heap.size := by omega
      have hco := HCO.out wr HWW.out y
      clear hu hy0 k0
      cases hov : decide (y ∈ ov) with
      | true =>
        rw [hov] at hco
        have HCY := Lib.hid hco
        have HTK := Lib.hid (wantP_out HY.out (want_over' (bs := bs) hov))
        clear hco hov
        go_wp2_with (go_at_call 80; (with_reducible refine (HCY.out).mono ?_); rintro e w9 ⟨rfl, hw9⟩; subst w9)
        go_roundg (zs.length - (k + 1))
        case measure => omega
        case rel => exact ⟨k + 1, B9, c9, by go_num, by rw [HTK.out], by omega, by omega, Lib.hid (by rw [HTK.out]; exact HO.out), HW⟩
      | false =>
        rw [hov] at hco
        have HCY := Lib.hid hco
        have HWB := Lib.hid (want_free' (l := l) (bs := bs) hov)
        have HBE := Lib.hid (below_c l (some ⟨T, 0, none⟩) y hwf wr (.inr ⟨T, rfl, HTR.out wr HWW.out, HR.out⟩))
        have hBL : (belowS l y).length ≤ 64 := by rw [← belowP_all]; exact Nat.le_trans (belowP_len _ _ _) (Nat.le_trans (leaves_len l) h64)
        unfold ListOk at HBE
        clear hco hov
        generalize belowS l y = vs at *
        obtain ⟨v, hv⟩ : ∃ v, v = vs.any (fun i => decide (i ∈ bs)) := ⟨_, rfl⟩
        rw [← hv] at HWB
        have HV := Lib.hid hv
        clear hv
        have HCF := Lib.hid (fun (w2 : World) (hb : Below wr.heap.size wr w2) (A2 : Option Addr) (c2 : Nat) (hs : Sl w2 w2.heap.size 1 A2 vs.length (St.I vs)) => containsF_c 85 (.pointer (some ⟨xb, 0, none⟩)) (fun i => decide (i ∈ bs)) eg_pred A2 c2 vs (by omega) w2 hs (pred_c xb _ _ Q qc bs hql w2 ((hb.block xb hxr).trans HK0.out) (HQ.out w2 (HWW.out.trans (hb.mono HWW.out.size)))))
        rw [← HV.out] at HCF
        cases v with
        | true =>
          have HTK := Lib.hid (wantP_in HY.out HWB.out)
          generalize wantP l ov bs k = os at *
          go_upto_region 8 with (first
            | (go_at_call 80; (with_reducible refine (HCY.out).mono ?_); rintro e w9 ⟨rfl, hw9⟩; subst w9)
            | (go_at_call 84; (with_reducible refine (HBE.out).mono ?_); rintro e w2 ⟨A2, c2, rfl, hs2, hb2⟩; have HCG := Lib.hid (HCF.out w2 hb2 A2 c2 hs2); have HB2 := Lib.hid hb2; clear hs2 hb2)
            | (go_at_call 83; (with_reducible refine (HCG.out).mono ?_); rintro e w3 ⟨rfl, hb3⟩; have HB3 := Lib.hid hb3; clear hb3))
          have HBK := Lib.hid (HB2.out.trans (HB3.out.mono HB2.out.size))
          have HO3 := Lib.hid (own_same (w' := w3) HO.out (fun q hq => HBK.out.block q (HO.out.lt q hq).2))
          have HW3 := Lib.hid (HW.out.trans (HBK.out.mono hwz))
          have hw3 : w1.heap.size ≤ w3.heap.size := HW3.out.size
          clear f0 f1 hc HB2 HB3
          go_wp2_with ((at_builtin; go_must (refine wpList_push_at (by rfl) _ _ 38 (by rfl) Tryz.underlying38 w1.heap.size y w3 _ os (by rfl) HO3.out (by rfl) (by omega) (by omega) ?_)); intro g cap7 w7 hown7 hg7 hl7; have HO7 := Lib.hid hown7; have HB7 := Lib.hid (push_below HW3.out (Nat.le_refl _) (by omega) HO3.out hg7); clear hown7 hg7 hl7)
          go_roundg (zs.length - (k + 1))
          case measure => omega
          case rel => exact ⟨k + 1, some ⟨g, 0, none⟩, cap7, by go_num, by rw [HTK.out]; simp, by omega, by omega, Lib.hid (by rw [HTK.out]; have := HO7.out; simpa [Sv.val] using this), HB7⟩
        | false =>
          have HTK := Lib.hid (wantP_out HY.out HWB.out)
          go_wp2_with (first
            | (go_at_call 80; (with_reducible refine (HCY.out).mono ?_); rintro e w9 ⟨rfl, hw9⟩; subst w9)
            | (go_at_call 84; (with_reducible refine (HBE.out).mono ?_); rintro e w2 ⟨A2, c2, rfl, hs2, hb2⟩; have HCG := Lib.hid (HCF.out w2 hb2 A2 c2 hs2); have HB2 := Lib.hid hb2; clear hs2 hb2)
            | (go_at_call 83; (with_reducible refine (HCG.out).mono ?_); rintro e w3 ⟨rfl, hb3⟩; have HB3 := Lib.hid hb3; clear hb3))
          have HBK := Lib.hid (HB2.out.trans (HB3.out.mono HB2.out.size))
          have HO3 := Lib.hid (own_same (w' := w3) HO.out (fun q hq => HBK.out.block q (HO.out.lt q hq).2))
          have HW3 := Lib.hid (HW.out.trans (HBK.out.mono hwz))
          go_roundg (zs.length - (k + 1))
          case measure => omega
          case rel => exact ⟨k + 1, B9, c9, by go_num, by rw [HTK.out], by omega, by omega, Lib.hid (by rw [HTK.out]; exact HO3.out), HW3⟩
    · have hltz : ¬ (k : Int) < (zs.length : Int) := by omega
      obtain rfl : k = zs.length := by omega
      have HTK : Hid (wantP l ov bs zs.length = wantS l ov bs) := Lib.hid (by rw [HZ.out]; exact wantP_all ov bs)
      rw [HTK.out] at HO ⊢
      go_wp2
      go_ret
      exact ⟨B9, c9, rfl, Sl.of_own HO.out, HW1.out.trans (HW.out.mono HW1.out.size)⟩
/-- a bank lies at b -/
def BankAt (w : World) (b S T : Nat) (O : Option Addr) (oc : Nat) (ov : List Int) (Q : Option Addr) (qc : Nat) (bs : List Int) (top : Int) (l : List Cls) : Prop := ∃ (A3 : Option Addr) (c3 : Nat), b < w.heap.size ∧
  w.heap[b]? = some (.cells #[.pointer (some ⟨S, 0, none⟩), .pointer (some ⟨T, 0, none⟩), .slice O ov.length oc, .slice Q bs.length qc, .int .i64 top, .slice A3 (wantS l ov bs).length c3] 152 (0, 0)) ∧ Sl w w.heap.size 1 A3 (wantS l ov bs).length (St.I (wantS l ov bs))
theorem BankAt.below {w w' : World} {b S T : Nat} {O : Option Addr} {oc : Nat} {ov : List Int} {Q : Option Addr} {qc : Nat} {bs : List Int} {top : Int} {l : List Cls} (h : BankAt w b S T O oc ov Q qc bs top l) (hb : Below w.heap.size w w') : BankAt w' b S T O oc ov Q qc bs top l := by
  obtain ⟨A3, c3, h0, h1, h2⟩ := h
  exact ⟨A3, c3, Nat.lt_of_lt_of_le h0 hb.size, (hb.block b h0).trans h1, (h2.below hb).more hb.size⟩
def OpenOk (S : Nat) (O : Option Addr) (oc : Nat) (ov : List Int) (Q : Option Addr) (qc : Nat) (bs : List Int) (top : Int) (l : List Cls) (T : Nat) (w : World) (e : Ending) (w' : World) : Prop := ∃ b, e = .returned (.pointer (some ⟨b, 0, none⟩)) ∧ BankAt w' b S T O oc ov Q qc bs top l ∧ Below w.heap.size w w'
set_option maxRecDepth 20000 in
set_option maxHeartbeats 2000000 in
theorem open_c (t r d : Int) (l : List Cls) (fs : List F) (R : Tp.Tree l) (S T : Nat) (O : Option Addr) (oc : Nat) (ov : List Int) (Q : Option Addr) (qc : Nat) (bs : List Int) (hol : ov.length ≤ 70) (hql : bs.length ≤ 70) (top : Int) (w : World)
    (hS : SetAt w w.heap.size S t r d l fs) (hT : w.cell? ⟨S, 0, none⟩ = some (.pointer (some ⟨T, 0, none⟩))) (hO : Sl w w.heap.size 1 O ov.length (St.I ov)) (hQ : Sl w w.heap.size 1 Q bs.length (St.I bs)) :
    Calls Tryz.prog 78 #[.pointer (some ⟨S, 0, none⟩), .agg #[.slice O ov.length oc, .slice Q bs.length qc, .int .i64 top]] w (OpenOk S O oc ov Q qc bs top l T w) := by
  have hSl : S < w.heap.size := by obtain ⟨_, _, _, _, _, _, _, h, _⟩ := hS; exact h
  have hh := heap_alloc_new w (.cells #[.slice O ov.length oc, .slice Q bs.length qc, .int .i64 top] 62)
  have hB0 := (Below.refl w.heap.size w).alloc (Nat.le_refl _) (.cells #[.slice O ov.length oc, .slice Q bs.length qc, .int .i64 top] 62)
  have hz0 : (w.alloc (.cells #[.slice O ov.length oc, .slice Q bs.length qc, .int .i64 top] 62)).heap.size = w.heap.size + 1 := by simp
  have HH := Lib.hid hh; have HB0 := Lib.hid hB0
  have HTC := Lib.hid (fun (u : World) (h : Below w.heap.size w u) => settree_c S (.pointer (some ⟨T, 0, none⟩)) u ((h.cell (p := ⟨S, 0, none⟩) hSl).trans hT))
  have HWN := Lib.hid (fun (u : World) (h : Below w.heap.size w u) => wanting_c t r d l fs R S O oc ov Q qc bs hol hql top u ((hS.below h).up h.size) ((hO.below h).more h.size) ((hQ.below h).more h.size))
  unfold ListOk at HWN
  clear hh hB0 hO hQ hS hT R
  obtain ⟨zs, hz⟩ : ∃ zs, zs = wantS l ov bs := ⟨_, rfl⟩
  have HZ := Lib.hid hz
  rw [← hz] at HWN
  clear hz
  go_enter Tryz.func78, Tryz.ntmps78
  go_upto_region 1 with fail
  generalize World.alloc w _ = U at *
  obtain ⟨xb, hxb⟩ : ∃ xb, xb = w.heap.size := ⟨_, rfl⟩
  rw [← hxb] at HH ⊢
  have hxU : xb < U.heap.size := by omega
  clear hxb hz0
  have f0 := cells_at HH.out 0 (.slice O ov.length oc) rfl; have f1 := cells_at HH.out 1 (.slice Q bs.length qc) rfl; have f2 := cells_at HH.out 2 (.int .i64 top) rfl
  have HD := Lib.hid ((Below.refl U.heap.size U).drew)
  have HBU := Lib.hid (fun (u : World) (h : Below U.heap.size U u) => HB0.out.trans (h.mono HB0.out.size))
  go_region_held3 (fun w' => w'.cell? ⟨xb, 0, none⟩ = some (.slice O ov.length oc) ∧ w'.cell? ⟨xb, 1, none⟩ = some (.slice Q bs.length qc) ∧ w'.cell? ⟨xb, 2, none⟩ = some (.int .i64 top)) (first | (refine ⟨?_, ?_, ?_⟩ <;> (refine (Below.cell (w := U) (B := U.heap.size) ?hb ?hp).trans (by assumption); (case hp => assumption); (case hb => (repeat' (first | assumption | exact Below.refl _ _ | refine Below.drew ?_ | refine Below.alloc ?_ ?_ _ | omega))))) | (all_goals (refine (Below.cell (w := U) (B := U.heap.size) ?hb ?hp).trans (by assumption); (case hp => assumption); (case hb => (repeat' (first | assumption | exact Below.refl _ _ | refine Below.drew ?_ | refine Below.alloc ?_ ?_ _ | omega)))))) (first
    | (go_at_call 19; (with_reducible refine (HTC.out _ (HBU.out _ (by first | assumption | exact HD.out))).mono ?_); rintro e w' ⟨rfl, rfl⟩)
    | (go_at_call 38; (with_reducible refine (HWN.out _ (HBU.out _ HD.out)).mono ?_); rintro e w3 ⟨A3, c3, rfl, hs3, hb3⟩; have hbK := HD.out.trans (hb3.mono HD.out.size); have hbKs := hbK.size; have HS3 := Lib.hid hs3; clear hs3))
  all_goals
    have HBK := Lib.hid (HBU.out _ hbK)
    clear f0 f1 f2 hbK hbKs
    go_wp2_with fail
    go_ret
    have hsz := HBK.out.size
    refine ⟨w3.heap.size, rfl, ⟨A3, c3, by simp, by rw [← HZ.out]; exact heap_alloc_new w3 _, ?_⟩, HBK.out.alloc hsz _⟩
    rw [← HZ.out]
    have hb := (Below.refl w3.heap.size w3).alloc (Nat.le_refl _) (.cells #[.pointer (some ⟨S, 0, none⟩), .pointer (some ⟨T, 0, none⟩), .slice O ov.length oc, .slice Q bs.length qc, .int .i64 top, .slice A3 zs.length c3] 152)
    exact (HS3.out.below hb).more hb.size
end Go.Proofs.YtpchhfhmopmagaaGreat.Le

/- The bank: over, the rules. -/
namespace Go.Proofs.YtpchhfhmopmagaaGreat.Le
open Go.RowKit Go.Maps Go.Proofs.YtpchhfhmopmagaaGreat.Wd Go.Proofs.YtpchhfhmopmagaaGreat.Li Go.Proofs.YtpchhfhmopmagaaGreat.Mp Go.Proofs.YtpchhfhmopmagaaGreat.Tp Go.Proofs.YtpchhfhmopmagaaGreat.Tr Go.Proofs.YtpchhfhmopmagaaGreat.Cl Go.Proofs.YtpchhfhmopmagaaGreat.So Go.Proofs.YtpchhfhmopmagaaGreat.Sw Go.Proofs.YtpchhfhmopmagaaGreat.Pa Go.Proofs.YtpchhfhmopmagaaGreat.Cf Go.Proofs.YtpchhfhmopmagaaGreat.Fi Go.Proofs.YtpchhfhmopmagaaGreat.Ga Go.Proofs.YtpchhfhmopmagaaGreat.Qu
attribute [local go_sem] run_store_float

set_option maxRecDepth 20000 in
theorem over_c (b S T : Nat) (O : Option Addr) (oc : Nat) (ov : List Int) (Q : Option Addr) (qc : Nat) (bs : List Int) (top : Int) (l : List Cls) (hol : ov.length ≤ 70) (id : Int) (n : Nat) (w : World) (hb : BankAt w b S T O oc ov Q qc bs top l) (hO : Sl w n 1 O ov.length (St.I ov)) :
    Calls Tryz.prog 156 #[.pointer (some ⟨b, 0, none⟩), .int .i64 id] w fun e w' => e = .returned (.bool (decide (id ∈ ov))) ∧ w = w' := by
  obtain ⟨A3, c3, _, h1, _⟩ := hb
  have x2 := cells_at h1 2 (.slice O ov.length oc) rfl
  have HC := Lib.hid (contains_c O oc ov id (by omega) n w hO)
  clear h1 hO
  go_enter Tryz.func156, Tryz.ntmps156
  go_wp2_with (go_at_call 80; (with_reducible refine (HC.out).mono ?_); rintro e w' ⟨rfl, rfl⟩)
  go_ret
  exact ⟨rfl, rfl⟩
set_option maxRecDepth 20000 in
set_option maxHeartbeats 1000000 in
theorem conf_c (t r d : Int) (l : List Cls) (fs : List F) (hl : l.length ≤ 64) (hf : fs.length ≤ 1048576) (S : Nat) (w : World) (hS : SetAt w w.heap.size S t r d l fs) :
    Calls Tryz.prog 216 #[.pointer (some ⟨S, 0, none⟩)] w fun e w' => (∃ (a : Option Addr) (n c : Nat) (b : Option Addr) (m k : Nat), e = .returned (.agg #[.int .i64 t, .int .i64 r, .int .i64 d, .slice a n c, .slice b m k])) ∧ Below w.heap.size w w' := by
  obtain ⟨T, Tb, q, A1, c1, A2, c2, hSl, hSc, _, _, _, hA, hF⟩ := hS
  have hB0 := (Below.refl w.heap.size w).alloc (Nat.le_refl _) (.cells #[.int .i64 0, .int .i64 0, .int .i64 0, .slice none 0 0, .slice none 0 0] 25)
  have HH := Lib.hid (heap_alloc_new w (.cells #[.int .i64 0, .int .i64 0, .int .i64 0, .slice none 0 0, .slice none 0 0] 25))
  have hz0 : (w.alloc (.cells #[.int .i64 0, .int .i64 0, .int .i64 0, .slice none 0 0, .slice none 0 0] 25)).heap.size = w.heap.size + 1 := by simp
  have HB0 := Lib.hid hB0
  have hsl : (sortC l).length = l.length := sortC_len l
  have hsf : (sortK F.id fs).length = fs.length := (Lies.parts hF).1.symm
  have HCN := Lib.hid (canon_c t r d A1 l.length c1 A2 fs.length c2 (sortC l) (sortK F.id fs) (by omega) (by omega) _ ((hA.below hB0).up hB0.size) (Lies.up hB0.size (Lies.below hB0 hF)))
  have k0 := (hB0.block S hSl).trans hSc
  unfold CanonOk cfV at HCN
  clear hB0 hSc hA hF
  go_enter Tryz.func216, Tryz.ntmps216
  go_upto_region 1 with fail
  generalize World.alloc w _ = U at *
  obtain ⟨xb, hxb⟩ : ∃ xb, xb = w.heap.size := ⟨_, rfl⟩
  rw [← hxb] at HH ⊢
  have hxU : xb < U.heap.size := by omega
  have hxw : w.heap.size ≤ xb := by omega
  clear hxb hz0
  have f3 := cells_at k0 3 (.int .i64 t) rfl; have f4 := cells_at k0 4 (.int .i64 r) rfl; have f5 := cells_at k0 5 (.int .i64 d) rfl; have f6 := cells_at k0 6 (.slice A1 l.length c1) rfl; have f7 := cells_at k0 7 (.slice A2 fs.length c2) rfl
  clear k0
  go_wp2_with (first
    | (go_at_call 49; (with_reducible refine (HCN.out).mono ?_); rintro e w3 ⟨A4, c4, A5, c5, rfl, _, _, hb3⟩; have hk := (hb3.block xb hxU).trans HH.out; have HB3 := Lib.hid hb3; clear hb3)
    | (refine wpList_store_whole (by rfl) 25 _ _ (by rfl) 5 Tryz.sizeOf25 xb _ _ 25 (by rfl) (by rfl) hk (by rfl) (by rfl) (by simp [Value.oneCell']) ?_; intro w6 hb6 hg6; have r0 := cells_at hb6 0 _ rfl; have r1 := cells_at hb6 1 _ rfl; have r2 := cells_at hb6 2 _ rfl; have r3 := cells_at hb6 3 _ rfl; have r4 := cells_at hb6 4 _ rfl; have HG6 := Lib.hid hg6; clear hb6 hg6))
  (try simp only [Exit.inBlock, Exit.then])
  refine bodyPost_ret (v := .agg #[.int .i64 t, .int .i64 r, .int .i64 d, .slice A4 l.length c4, .slice A5 fs.length c5]) (by simp [results, Tryz.results216, go_sem, r0, r1, r2, r3, r4]) rfl ?_
  have hw3 := HB3.out.size
  have hwU := HB0.out.size
  exact ⟨⟨_, _, _, _, _, _, rfl⟩, (HB0.out.trans (HB3.out.mono hwU)).grown HG6.out (by omega) (fun q hq => by injection hq; omega)⟩
@[go_sem] theorem conf_1 (t r d : Int) (a b : Option Addr) (n c m k : Nat) (w : World) : (Instr.field 25 (.agg #[.int .i64 t, .int .i64 r, .int .i64 d, .slice a n c, .slice b m k]) 1).run Tryz.prog w = .ok (.int .i64 r) w := by kernel_rfl
/-- the rule's function -/
def ruleF (r : Int) : Nat := if r = 1 then 217 else if r = 2 then 218 else 219
set_option maxRecDepth 20000 in
set_option maxHeartbeats 1000000 in
theorem lets_c (t r d : Int) (l : List Cls) (fs : List F) (hl : l.length ≤ 64) (hf : fs.length ≤ 1048576) (b S T : Nat) (O : Option Addr) (oc : Nat) (ov : List Int) (Q : Option Addr) (qc : Nat) (bs : List Int) (top : Int) (w : World) (hS : SetAt w w.heap.size S t r d l fs) (hb : BankAt w b S T O oc ov Q qc bs top l) :
    Calls Tryz.prog 157 #[.pointer (some ⟨b, 0, none⟩)] w fun e w' => e = .returned (.func (.func (ruleF r)) #[.pointer (some ⟨b, 0, none⟩)] #[]) ∧ Below w.heap.size w w' := by
  obtain ⟨A3, c3, _, h1, _⟩ := hb
  have x0 := cells_at h1 0 (.pointer (some ⟨S, 0, none⟩)) rfl
  have HC := Lib.hid (conf_c t r d l fs hl hf S w hS)
  clear h1 hS
  by_cases hr1 : r = 1
  · have hR := Lib.hid (show ruleF r = 217 from if_pos hr1)
    have e1 : (r == 1) = true := by rw [beq_iff_eq]; exact hr1
    rw [hR.out]
    clear hR hr1
    go_enter Tryz.func157, Tryz.ntmps157
    go_wp2_with (go_at_call 216; (with_reducible refine (HC.out).mono ?_); rintro e w3 ⟨⟨ca, cn, cc, cb, cm, ck, rfl⟩, hb3⟩; have HB3 := Lib.hid hb3; clear hb3)
    go_ret
    exact ⟨rfl, HB3.out⟩
  have e1 : (r == 1) = false := by rw [beq_eq_false_iff_ne]; exact hr1
  by_cases hr2 : r = 2
  · have hR := Lib.hid (show ruleF r = 218 by unfold ruleF; rw [if_neg hr1, if_pos hr2])
    have e2 : (r == 2) = true := by rw [beq_iff_eq]; exact hr2
    rw [hR.out]
    clear hR hr1 hr2
    go_enter Tryz.func157, Tryz.ntmps157
    go_wp2_with (go_at_call 216; (with_reducible refine (HC.out).mono ?_); rintro e w3 ⟨⟨ca, cn, cc, cb, cm, ck, rfl⟩, hb3⟩; have HB3 := Lib.hid hb3; clear hb3)
    go_ret
    exact ⟨rfl, HB3.out⟩
  · have hR := Lib.hid (show ruleF r = 219 by unfold ruleF; rw [if_neg hr1, if_neg hr2])
    have e2 : (r == 2) = false := by rw [beq_eq_false_iff_ne]; exact hr2
    rw [hR.out]
    clear hR hr1 hr2
    go_enter Tryz.func157, Tryz.ntmps157
    go_wp2_with (go_at_call 216; (with_reducible refine (HC.out).mono ?_); rintro e w3 ⟨⟨ca, cn, cc, cb, cm, ck, rfl⟩, hb3⟩; have HB3 := Lib.hid hb3; clear hb3)
    go_ret
    exact ⟨rfl, HB3.out⟩
set_option maxRecDepth 20000 in
theorem anyone_c (b : Nat) (leaf by_ : Int) (w : World) : Calls Tryz.prog 219 #[.pointer (some ⟨b, 0, none⟩), .int .i64 leaf, .int .i64 by_] w (Tr.RetB (.bool true) w) := by
  go_enter Tryz.func219, Tryz.ntmps219
  go_wp2
  go_ret
  exact ⟨rfl, Below.refl _ _⟩
set_option maxRecDepth 20000 in
set_option maxHeartbeats 1000000 in
theorem lower_c (b S T : Nat) (O : Option Addr) (oc : Nat) (ov : List Int) (Q : Option Addr) (qc : Nat) (bs : List Int) (top : Int) (l : List Cls) (leaf by_ : Int) (hwf : (Lit.int .i64 by_).wf = true) (w : World) (hb : BankAt w b S T O oc ov Q qc bs top l) (hT : TreeAt w w.heap.size T l) :
    Calls Tryz.prog 217 #[.pointer (some ⟨b, 0, none⟩), .int .i64 leaf, .int .i64 by_] w (Tr.RetB (.bool (decide (levelS l by_ ≤ top))) w) := by
  obtain ⟨A3, c3, hbl, h1, _⟩ := hb
  have x1 := cells_at h1 1 (.pointer (some ⟨T, 0, none⟩)) rfl
  have x4 := cells_at h1 4 (.int .i64 top) rfl
  have HLV := Lib.hid (fun (u : World) (h : Below w.heap.size w u) => tlevel_c T l by_ hwf w.heap.size u (hT.below h))
  have HD := Lib.hid ((Below.refl w.heap.size w).drew)
  clear h1 hT
  generalize levelS l by_ = lv at *
  go_enter Tryz.func217, Tryz.ntmps217
  go_upto_region 1 with fail
  go_region_held3 (fun w' => w'.cell? ⟨b, 1, none⟩ = some (.pointer (some ⟨T, 0, none⟩)) ∧ w'.cell? ⟨b, 4, none⟩ = some (.int .i64 top)) (first | (refine ⟨?_, ?_⟩ <;> (refine (Below.cell (w := w) (B := w.heap.size) ?hb ?hp).trans (by assumption); (case hp => assumption); (case hb => (repeat' (first | assumption | exact Below.refl _ _ | refine Below.drew ?_))))) | (all_goals (refine (Below.cell (w := w) (B := w.heap.size) ?hb ?hp).trans (by assumption); (case hp => assumption); (case hb => (repeat' (first | assumption | exact Below.refl _ _ | refine Below.drew ?_)))))) (first
    | (go_at_call 259; (with_reducible refine (HLV.out _ HD.out).mono ?_); rintro e w3 ⟨rfl, hw3⟩; have hbK : Below w.heap.size w w3 := hw3 ▸ HD.out; have hbKs := hbK.size; clear hw3))
  all_goals
    have HBK := Lib.hid hbK
    go_wp2_with fail
    go_ret
    exact ⟨rfl, HBK.out⟩
theorem stop_1 {l : List Cls} {leaf by_ id : Int} (h : decide (levelS l id < levelS l by_) = false) : stopB l leaf by_ id = false := by unfold stopB; rw [h]; rfl
theorem stop_2 {l : List Cls} {leaf by_ id : Int} (h : apartS l id leaf = true) : stopB l leaf by_ id = false := by unfold stopB; rw [h]; simp
theorem stop_3 {l : List Cls} {leaf by_ id : Int} (h : decide (levelS l id < levelS l by_) = true) (h2 : apartS l id leaf = false) : stopB l leaf by_ id = true := by unfold stopB; rw [h, h2]; rfl
theorem form_stop (l : List Cls) (ov bs : List Int) (leaf by_ : Int) : formB l ov bs leaf by_ = !((wantS l ov bs).any (stopB l leaf by_)) := by
  unfold formB
  rw [Bool.eq_iff_iff]
  simp [List.all_eq_true, List.any_eq_false]
set_option maxRecDepth 20000 in
set_option maxHeartbeats 2000000 in
theorem formal_c (b S T : Nat) (O : Option Addr) (oc : Nat) (ov : List Int) (Q : Option Addr) (qc : Nat) (bs : List Int) (top : Int) (l : List Cls) (R : Tp.Tree l) (leaf by_ : Int) (hwl : (Lit.int .i64 leaf).wf = true) (hwf : (Lit.int .i64 by_).wf = true) (w : World) (hb : BankAt w b S T O oc ov Q qc bs top l) (hT : TreeAt w w.heap.size T l) :
    Calls Tryz.prog 218 #[.pointer (some ⟨b, 0, none⟩), .int .i64 leaf, .int .i64 by_] w (Tr.RetB (.bool (formB l ov bs leaf by_)) w) := by
  have hZL : (wantS l ov bs).length ≤ 64 := Nat.le_trans (wantS_len ov bs) R.le
  have HWI : Hid (∀ y, y ∈ wantS l ov bs → (Lit.int .i64 y).wf = true) := Lib.hid (fun y hy => Fit.wf (.inr R) (wantS_mem hy))
  rw [form_stop]
  obtain ⟨A3, c3, hbl, h1, hZ⟩ := hb
  have x1 := cells_at h1 1 (.pointer (some ⟨T, 0, none⟩)) rfl
  have x5 := cells_at h1 5 (.slice A3 (wantS l ov bs).length c3) rfl
  have HC0 := Lib.hid h1; have HZ := Lib.hid hZ
  have HLV := Lib.hid (fun (u : World) (h : Below w.heap.size w u) (id : Int) (hid : (Lit.int .i64 id).wf = true) => tlevel_c T l id hid w.heap.size u (hT.below h))
  have HAP := Lib.hid (fun (u : World) (h : Below w.heap.size w u) (id : Int) (hid : (Lit.int .i64 id).wf = true) => apart_c l (some ⟨T, 0, none⟩) id leaf hid hwl u (.inr ⟨T, rfl, (hT.below h).up h.size, R⟩))
  have HK3 : Hid (∀ id, decide (levelS l id < levelS l by_) = true → apartS l id leaf = false → stopB l leaf by_ id = true) := Lib.hid (fun id => stop_3)
  have HK1 : Hid (∀ id, decide (levelS l id < levelS l by_) = false → stopB l leaf by_ id = false) := Lib.hid (fun id => stop_1)
  have HLB := Lib.hid (HLV.out w (Below.refl _ _) by_ hwf)
  clear h1 hT hZ R
  generalize wantS l ov bs = zs at *
  generalize levelS l by_ = lb at *
  go_enter Tryz.func218, Tryz.ntmps218
  go_wp2_with (go_at_call 259; (with_reducible refine (HLB.out).mono ?_); rintro e w3 ⟨rfl, hw3⟩; subst w3)
  clear x1 x5
  go_loopg [21] zs.length (fun kx s21 wr => ∃ (k : Nat), s21 = .int .i64 k ∧ k ≤ zs.length ∧ zs.length - k ≤ kx ∧ Hid (Below w.heap.size w wr) ∧ Hid ((zs.take k).any (stopB l leaf by_) = false))
  case atStart => exact ⟨0, rfl, by omega, by omega, Lib.hid (Below.refl _ _), Lib.hid rfl⟩
  case round =>
    obtain ⟨k, rfl, hk, hkx, HW, HN⟩ := hrel
    have hwz := HW.out.size
    by_cases hlt : k < zs.length
    · have hltz : (k : Int) < (zs.length : Int) := by omega
      obtain ⟨a, u, rfl, hab, hu, hc⟩ := (HZ.out.below HW.out).cell1 (k := k) hlt
      unfold St.I at hu
      simp only [List.getElem?_map] at hu
      obtain ⟨y, hy0, rfl⟩ := Option.map_eq_some_iff.1 hu
      have HY := Lib.hid hy0
      have hyw := HWI.out y (List.mem_of_getElem? hy0)
      have x1 := cells_at ((HW.out.block b hbl).trans HC0.out) 1 (.pointer (some ⟨T, 0, none⟩)) rfl
      have HL := Lib.hid (HLV.out wr HW.out y hyw)
      have HA := Lib.hid (HAP.out wr HW.out y hyw)
      have HK1x := Lib.hid (HK1.out y)
      have HK3x := Lib.hid (HK3.out y)
      obtain ⟨lv, hlv⟩ : ∃ lv, lv = levelS l y := ⟨_, rfl⟩
      rw [← hlv] at HL HK1x HK3x
      clear hlv hu hy0
      cases hlo : decide (lv < lb) with
      | false =>
        have HT := Lib.hid (any_take HY.out HN.out (HK1x.out hlo))
        go_wp2_with (go_at_call 259; (with_reducible refine (HL.out).mono ?_); rintro e w3 ⟨rfl, hw3⟩; subst w3)
        go_roundg (zs.length - (k + 1))
        case measure => omega
        case rel => exact ⟨k + 1, by go_num, by omega, by omega, HW, HT⟩
      | true =>
        obtain ⟨p, hp⟩ : ∃ p, p = apartS l y leaf := ⟨_, rfl⟩
        rw [← hp] at HA
        have HP := Lib.hid hp
        clear hp
        cases p with
        | true =>
          have HT := Lib.hid (any_take HY.out HN.out (stop_2 HP.out.symm))
          go_wp2_with (first
            | (go_at_call 259; (with_reducible refine (HL.out).mono ?_); rintro e w3 ⟨rfl, hw3⟩; subst w3)
            | (go_at_call 260; (with_reducible refine (HA.out).mono ?_); rintro e w4 ⟨rfl, hb4⟩; have HB4 := Lib.hid hb4; clear hb4))
          go_roundg (zs.length - (k + 1))
          case measure => omega
          case rel => exact ⟨k + 1, by go_num, by omega, by omega, Lib.hid (HW.out.trans (HB4.out.mono hwz)), HT⟩
        | false =>
          have HT := Lib.hid (any_hit HY.out (HK3x.out hlo HP.out.symm))
          go_wp2_with (first
            | (go_at_call 259; (with_reducible refine (HL.out).mono ?_); rintro e w3 ⟨rfl, hw3⟩; subst w3)
            | (go_at_call 260; (with_reducible refine (HA.out).mono ?_); rintro e w4 ⟨rfl, hb4⟩; have HB4 := Lib.hid hb4; clear hb4))
          go_ret
          exact ⟨by rw [HT.out]; rfl, HW.out.trans (HB4.out.mono hwz)⟩
    · have hltz : ¬ (k : Int) < (zs.length : Int) := by omega
      obtain rfl : k = zs.length := by omega
      have HT : Hid (zs.any (stopB l leaf by_) = false) := Lib.hid (by have := HN.out; rwa [List.take_length] at this)
      go_wp2
      go_ret
      exact ⟨by rw [HT.out]; rfl, HW.out⟩
theorem eg_rule (r : Int) : ∀ args w, (callFunc (ruleF r) args).run Tryz.prog w = .ok (.enter (ruleF r) args) w := by
  unfold ruleF
  split
  · exact enters_of Tryz.func217 (by kernel_rfl) rfl
  · split
    · exact enters_of Tryz.func218 (by kernel_rfl) rfl
    · exact enters_of Tryz.func219 (by kernel_rfl) rfl
theorem rule_c (r : Int) (b S T : Nat) (O : Option Addr) (oc : Nat) (ov : List Int) (Q : Option Addr) (qc : Nat) (bs : List Int) (top : Int) (l : List Cls) (R : Tp.Tree l) (leaf by_ : Int) (hwl : (Lit.int .i64 leaf).wf = true) (hwf : (Lit.int .i64 by_).wf = true) (w : World) (hb : BankAt w b S T O oc ov Q qc bs top l) (hT : TreeAt w w.heap.size T l) :
    Calls Tryz.prog (ruleF r) #[.pointer (some ⟨b, 0, none⟩), .int .i64 leaf, .int .i64 by_] w (Tr.RetB (.bool (letsB l r top ov bs leaf by_)) w) := by
  unfold ruleF letsB
  by_cases h1 : r = 1
  · rw [if_pos h1, if_pos h1]
    exact lower_c b S T O oc ov Q qc bs top l leaf by_ hwf w hb hT
  · rw [if_neg h1, if_neg h1]
    by_cases h2 : r = 2
    · rw [if_pos h2, if_pos h2]
      exact formal_c b S T O oc ov Q qc bs top l R leaf by_ hwl hwf w hb hT
    · rw [if_neg h2, if_neg h2]
      exact anyone_c b leaf by_ w
end Go.Proofs.YtpchhfhmopmagaaGreat.Le

/- lend.Lender, lend.Able. -/
namespace Go.Proofs.YtpchhfhmopmagaaGreat.Le
open Go.RowKit Go.Maps Go.Proofs.YtpchhfhmopmagaaGreat.Wd Go.Proofs.YtpchhfhmopmagaaGreat.Li Go.Proofs.YtpchhfhmopmagaaGreat.Mp Go.Proofs.YtpchhfhmopmagaaGreat.Tp Go.Proofs.YtpchhfhmopmagaaGreat.Tr Go.Proofs.YtpchhfhmopmagaaGreat.Cl Go.Proofs.YtpchhfhmopmagaaGreat.So Go.Proofs.YtpchhfhmopmagaaGreat.Sw Go.Proofs.YtpchhfhmopmagaaGreat.Pa Go.Proofs.YtpchhfhmopmagaaGreat.Cf Go.Proofs.YtpchhfhmopmagaaGreat.Fi Go.Proofs.YtpchhfhmopmagaaGreat.Ga Go.Proofs.YtpchhfhmopmagaaGreat.Qu
attribute [local go_sem] run_store_float

theorem lend_wf {l : List Cls} (F : Fit l) {y leaf : Int} (h : y ∈ lendS l leaf) : (Lit.int .i64 y).wf = true := by
  unfold lendS pars at h
  obtain ⟨x, hx, rfl⟩ := List.mem_map.1 h
  have := F.pos x.2
  exact wf_small this.2.2.1 this.2.2.2
set_option maxRecDepth 20000 in
set_option maxHeartbeats 2000000 in
theorem lender_c (t r d : Int) (l : List Cls) (fs : List F) (hf : fs.length ≤ 1048576) (R : Tp.Tree l) (b S T : Nat) (O : Option Addr) (oc : Nat) (ov : List Int) (Q : Option Addr) (qc : Nat) (bs : List Int) (hol : ov.length ≤ 70) (top leaf : Int) (hwl : (Lit.int .i64 leaf).wf = true) (w : World)
    (hS : SetAt w w.heap.size S t r d l fs) (hb : BankAt w b S T O oc ov Q qc bs top l) (hT : TreeAt w w.heap.size T l) (hO : Sl w w.heap.size 1 O ov.length (St.I ov)) :
    Calls Tryz.prog 79 #[.pointer (some ⟨b, 0, none⟩), .int .i64 leaf] w (LendOk (lenderS l r top ov bs leaf) w) := by
  have h64 := R.le
  have HBK := Lib.hid (fun (u : World) (h : Below w.heap.size w u) => hb.below h)
  have HTR := Lib.hid (fun (u : World) (h : Below w.heap.size w u) => (hT.below h).up h.size)
  have HOV := Lib.hid (fun (u : World) (h : Below w.heap.size w u) (y : Int) => over_c b S T O oc ov Q qc bs top l hol y w.heap.size u (hb.below h) (hO.below h))
  have HLS := Lib.hid (fun (u : World) (h : Below w.heap.size w u) => lets_c t r d l fs h64 hf b S T O oc ov Q qc bs top u ((hS.below h).up h.size) (hb.below h))
  have HRU := Lib.hid (fun (u : World) (h : Below w.heap.size w u) (y : Int) (hy : (Lit.int .i64 y).wf = true) => rule_c r b S T O oc ov Q qc bs top l R leaf y hwl hy u (hb.below h) ((hT.below h).up h.size))
  have HLE := Lib.hid (fun (u : World) (h : Below w.heap.size w u) => lenders_c l (some ⟨T, 0, none⟩) leaf hwl u (.inr ⟨T, rfl, (hT.below h).up h.size, R⟩))
  obtain ⟨lf, hlf⟩ : ∃ lf, lf = leafB l leaf := ⟨_, rfl⟩
  have HLF := Lib.hid (tleaf_c T l leaf hwl w hT)
  rw [← hlf] at HLF
  have HLF0 := Lib.hid hlf.symm
  clear hlf
  have HWF : Hid (∀ y, y ∈ lendS l leaf → (Lit.int .i64 y).wf = true) := Lib.hid (fun y hy => lend_wf (.inr R) hy)
  have hll := lend_len l leaf
  have eg := eg_rule r
  unfold ListOk at HLE
  unfold Tr.RetB at HRU
  obtain ⟨A3, c3, hbl, h1, _⟩ := hb
  have x1 := cells_at h1 1 (.pointer (some ⟨T, 0, none⟩)) rfl
  have HC0 := Lib.hid h1
  clear h1 hS hT hO R
  generalize hgr : ruleF r = g at *
  clear hgr
  cases lf with
  | false =>
    have HR := Lib.hid (lender_no (r := r) (top := top) (ov := ov) (bs := bs) HLF0.out)
    go_enter Tryz.func79, Tryz.ntmps79
    go_wp2_with (go_at_call 61; (with_reducible refine (HLF.out).mono ?_); rintro e w1 ⟨rfl, hb1⟩; have HB1 := Lib.hid hb1; clear hb1)
    go_ret2
    exact ⟨by rw [HR.out]; rfl, HB1.out⟩
  | true =>
    go_enter Tryz.func79, Tryz.ntmps79
    go_upto_region 3 with (go_at_call 61; (with_reducible refine (HLF.out).mono ?_); rintro e w1 ⟨rfl, hb1⟩; have HB1 := Lib.hid hb1; clear hb1)
    have hws := HB1.out.size
    have k0 := (HB1.out.block b hbl).trans HC0.out
    have HC1 := Lib.hid k0
    have x1' := cells_at k0 1 (.pointer (some ⟨T, 0, none⟩)) rfl
    clear k0 x1
    have hho := HOV.out w1 HB1.out leaf
    cases hov : decide (leaf ∈ ov) with
    | false =>
      have HR := Lib.hid (lender_own (r := r) (top := top) (bs := bs) HLF0.out (of_decide_eq_false hov))
      rw [hov] at hho
      have HHO := Lib.hid hho
      clear hov hho
      go_wp2_with (go_at_call 156; (with_reducible refine (HHO.out).mono ?_); rintro e w9 ⟨rfl, hw9⟩; subst w9)
      go_ret2
      exact ⟨by rw [HR.out]; rfl, HB1.out⟩
    | true =>
      have HR := Lib.hid (lender_way (r := r) (top := top) (bs := bs) HLF0.out (of_decide_eq_true hov))
      rw [hov] at hho
      have HHO := Lib.hid hho
      have HL1 := Lib.hid (HLS.out w1 HB1.out)
      clear hov hho
      obtain ⟨zs, hz⟩ : ∃ zs, zs = lendS l leaf := ⟨_, rfl⟩
      rw [← hz] at HLE HWF hll HR
      clear hz
      go_upto_region 6 with (first
        | (go_at_call 156; (with_reducible refine (HHO.out).mono ?_); rintro e w9 ⟨rfl, hw9⟩; subst w9)
        | (go_at_call 157; (with_reducible refine (HL1.out).mono ?_); rintro e w2 ⟨rfl, hb2⟩; have HB2 := Lib.hid hb2; clear hb2))
      have hws2 := HB2.out.size
      have HW2 := Lib.hid (HB1.out.trans (HB2.out.mono hws))
      have x1 := cells_at ((HB2.out.block b (by omega)).trans HC1.out) 1 (.pointer (some ⟨T, 0, none⟩)) rfl
      have HLU := Lib.hid (HLE.out w2 HW2.out)
      clear x1' HL1 HHO
      go_wp2_with (go_at_call 158; (with_reducible refine (HLU.out).mono ?_); rintro e w3 ⟨A4, c4, rfl, hs3, hb3⟩; have HS3 := Lib.hid hs3; have HB3 := Lib.hid hb3; clear hs3 hb3)
      have hws3 := HB3.out.size
      have HW3 := Lib.hid (HW2.out.trans (HB3.out.mono HW2.out.size))
      clear x1 HLU
      go_loopg [30] zs.length (fun kx s30 wr => ∃ (k : Nat), s30 = .int .i64 k ∧ k ≤ zs.length ∧ zs.length - k ≤ kx ∧ Hid (Below w3.heap.size w3 wr) ∧ Hid (zs.find? (okB l r top ov bs leaf) = (zs.drop k).find? (okB l r top ov bs leaf)))
      case atStart => exact ⟨0, rfl, by omega, by omega, Lib.hid (Below.refl _ _), Lib.hid rfl⟩
      case round =>
        obtain ⟨k, rfl, hk, hkx, HW, HN⟩ := hrel
        have hwz := HW.out.size
        have HWW := Lib.hid (HW3.out.trans (HW.out.mono HW3.out.size))
        by_cases hlt : k < zs.length
        · have hltz : (k : Int) < (zs.length : Int) := by omega
          obtain ⟨a, u, rfl, hab, hu, hc⟩ := (HS3.out.below HW.out).cell1 (k := k) hlt
          unfold St.I at hu
          simp only [List.getElem?_map] at hu
          obtain ⟨y, hy0, rfl⟩ := Option.map_eq_some_iff.1 hu
          have HY := Lib.hid hy0
          have hyw := HWF.out y (List.mem_of_getElem? hy0)
          have hho := HOV.out wr HWW.out y
          have hru := HRU.out wr HWW.out y hyw
          clear hu hy0 hyw
          cases hov : decide (y ∈ ov) with
          | true =>
            rw [hov] at hho
            have HHO := Lib.hid hho
            have HT := Lib.hid (HN.out.trans (find_skip HY.out (ok_over hov)))
            clear hov hho hru
            go_wp2_with (go_at_call 156; (with_reducible refine (HHO.out).mono ?_); rintro e w9 ⟨rfl, hw9⟩; subst w9)
            go_roundg (zs.length - (k + 1))
            case measure => omega
            case rel => exact ⟨k + 1, by go_num, by omega, by omega, HW, HT⟩
          | false =>
            rw [hov] at hho
            have HHO := Lib.hid hho
            have HOK := Lib.hid (ok_free (l := l) (r := r) (top := top) (bs := bs) (leaf := leaf) hov)
            obtain ⟨q, hq⟩ : ∃ q, q = letsB l r top ov bs leaf y := ⟨_, rfl⟩
            rw [← hq] at hru HOK
            have HRY := Lib.hid hru
            clear hov hho hq hru
            cases q with
            | false =>
              have HT := Lib.hid (HN.out.trans (find_skip HY.out HOK.out))
              go_wp2_with (first
                | (go_at_call 156; (with_reducible refine (HHO.out).mono ?_); rintro e w9 ⟨rfl, hw9⟩; subst w9)
                | (go_at_fn g; (with_reducible refine (HRY.out).mono ?_); rintro e w4 ⟨rfl, hb4⟩; have HB4 := Lib.hid hb4; clear hb4))
              go_roundg (zs.length - (k + 1))
              case measure => omega
              case rel => exact ⟨k + 1, by go_num, by omega, by omega, Lib.hid (HW.out.trans (HB4.out.mono hwz)), HT⟩
            | true =>
              have HT := Lib.hid (HN.out.trans (find_got HY.out HOK.out))
              go_wp2_with (first
                | (go_at_call 156; (with_reducible refine (HHO.out).mono ?_); rintro e w9 ⟨rfl, hw9⟩; subst w9)
                | (go_at_fn g; (with_reducible refine (HRY.out).mono ?_); rintro e w4 ⟨rfl, hb4⟩; have HB4 := Lib.hid hb4; clear hb4))
              go_ret2
              exact ⟨by rw [HR.out, HT.out]; rfl, HWW.out.trans (HB4.out.mono HWW.out.size)⟩
        · have hltz : ¬ (k : Int) < (zs.length : Int) := by omega
          obtain rfl : k = zs.length := by omega
          have HT : Hid (zs.find? (okB l r top ov bs leaf) = none) := Lib.hid (by have := HN.out; rw [List.drop_length] at this; rw [this]; rfl)
          go_wp2
          go_ret2
          exact ⟨by rw [HR.out, HT.out]; rfl, HWW.out⟩
set_option maxRecDepth 20000 in
theorem lender_nil (o q tp : Value) (leaf : Int) (w : World) : Calls Tryz.prog 33 #[.pointer none, .agg #[o, q, tp], .int .i64 leaf] w (LendOk none w) := by
  have HB := Lib.hid ((Below.refl w.heap.size w).alloc (Nat.le_refl _) (.cells #[o, q, tp] 62))
  go_enter Tryz.func33, Tryz.ntmps33
  go_wp2
  go_ret2
  exact ⟨rfl, HB.out⟩
set_option maxRecDepth 20000 in
theorem able_nil (o q tp : Value) (w : World) : Calls Tryz.prog 34 #[.pointer none, .agg #[o, q, tp]] w fun e w' => e = .returned (.slice none 0 0) ∧ Below w.heap.size w w' := by
  have HB := Lib.hid ((Below.refl w.heap.size w).alloc (Nat.le_refl _) (.cells #[o, q, tp] 62))
  go_enter Tryz.func34, Tryz.ntmps34
  go_wp2
  go_ret
  exact ⟨rfl, HB.out⟩
set_option maxRecDepth 20000 in
set_option maxHeartbeats 1000000 in
theorem slender_c (t r d : Int) (l : List Cls) (fs : List F) (hf : fs.length ≤ 1048576) (R : Tp.Tree l) (S : Nat) (O : Option Addr) (oc : Nat) (ov : List Int) (Q : Option Addr) (qc : Nat) (bs : List Int) (hol : ov.length ≤ 70) (hql : bs.length ≤ 70) (top leaf : Int) (hwl : (Lit.int .i64 leaf).wf = true) (w : World)
    (hS : SetAt w w.heap.size S t r d l fs) (hO : Sl w w.heap.size 1 O ov.length (St.I ov)) (hQ : Sl w w.heap.size 1 Q bs.length (St.I bs)) :
    Calls Tryz.prog 33 #[.pointer (some ⟨S, 0, none⟩), .agg #[.slice O ov.length oc, .slice Q bs.length qc, .int .i64 top], .int .i64 leaf] w (LendOk (lenderS l r top ov bs leaf) w) := by
  have hS2 := hS
  obtain ⟨T, Tb, q, A1, c1, A2, c2, hSl, hSc, hTr, _⟩ := hS2
  have hT0 := cells_at hSc 0 (.pointer (some ⟨T, 0, none⟩)) rfl
  have hB0 := (Below.refl w.heap.size w).alloc (Nat.le_refl _) (.cells #[.slice O ov.length oc, .slice Q bs.length qc, .int .i64 top] 62)
  have HH := Lib.hid (heap_alloc_new w (.cells #[.slice O ov.length oc, .slice Q bs.length qc, .int .i64 top] 62))
  have HB0 := Lib.hid hB0
  have HOP := Lib.hid (open_c t r d l fs R S T O oc ov Q qc bs hol hql top _ ((hS.below hB0).up hB0.size) ((hB0.cell (p := ⟨S, 0, none⟩) hSl).trans hT0) ((hO.below hB0).more hB0.size) ((hQ.below hB0).more hB0.size))
  have HLN := Lib.hid (fun (u : World) (h : Below w.heap.size w u) (b : Nat) (hb : BankAt u b S T O oc ov Q qc bs top l) => lender_c t r d l fs hf R b S T O oc ov Q qc bs hol top leaf hwl u ((hS.below h).up h.size) hb ((hTr.below h).up h.size) ((hO.below h).more h.size))
  unfold OpenOk at HOP
  unfold LendOk at HLN
  clear hS hO hQ hB0 hSc hTr hT0 R
  go_enter Tryz.func33, Tryz.ntmps33
  go_upto_region 1 with fail
  generalize World.alloc w _ = U at *
  have f0 := cells_at HH.out 0 (.slice O ov.length oc) rfl; have f1 := cells_at HH.out 1 (.slice Q bs.length qc) rfl; have f2 := cells_at HH.out 2 (.int .i64 top) rfl
  go_wp2_with (first
    | (go_at_call 78; (with_reducible refine (HOP.out).mono ?_); rintro e w1 ⟨b, rfl, hb, hb1⟩; have hW := HB0.out.trans (hb1.mono HB0.out.size); have HW1 := Lib.hid hW; have HLB := Lib.hid (HLN.out _ hW b hb); clear hb hb1 hW)
    | (go_at_call 79; (with_reducible refine (HLB.out).mono ?_); rintro e w2 ⟨rfl, hb2⟩; have HB2 := Lib.hid hb2; clear hb2))
  go_ret2
  exact ⟨rfl, HW1.out.trans (HB2.out.mono HW1.out.size)⟩
set_option maxRecDepth 20000 in
set_option maxHeartbeats 2000000 in
theorem sable_c (t r d : Int) (l : List Cls) (fs : List F) (hf : fs.length ≤ 1048576) (R : Tp.Tree l) (S : Nat) (O : Option Addr) (oc : Nat) (ov : List Int) (Q : Option Addr) (qc : Nat) (bs : List Int) (hol : ov.length ≤ 70) (hql : bs.length ≤ 70) (top : Int) (w : World)
    (hS : SetAt w w.heap.size S t r d l fs) (hO : Sl w w.heap.size 1 O ov.length (St.I ov)) (hQ : Sl w w.heap.size 1 Q bs.length (St.I bs)) :
    Calls Tryz.prog 34 #[.pointer (some ⟨S, 0, none⟩), .agg #[.slice O ov.length oc, .slice Q bs.length qc, .int .i64 top]] w (ListOk (ableS l r top ov bs) w) := by
  have hS2 := hS
  obtain ⟨T, Tb, q, A1, c1, A2, c2, hSl, hSc, hTr, _⟩ := hS2
  have hT0 := cells_at hSc 0 (.pointer (some ⟨T, 0, none⟩)) rfl
  have hB0 := (Below.refl w.heap.size w).alloc (Nat.le_refl _) (.cells #[.slice O ov.length oc, .slice Q bs.length qc, .int .i64 top] 62)
  have hz0 : (w.alloc (.cells #[.slice O ov.length oc, .slice Q bs.length qc, .int .i64 top] 62)).heap.size = w.heap.size + 1 := by simp
  have HH := Lib.hid (heap_alloc_new w (.cells #[.slice O ov.length oc, .slice Q bs.length qc, .int .i64 top] 62))
  have HB0 := Lib.hid hB0
  have HOP := Lib.hid (open_c t r d l fs R S T O oc ov Q qc bs hol hql top _ ((hS.below hB0).up hB0.size) ((hB0.cell (p := ⟨S, 0, none⟩) hSl).trans hT0) ((hO.below hB0).more hB0.size) ((hQ.below hB0).more hB0.size))
  have HLN := Lib.hid (fun (u : World) (h : Below w.heap.size w u) (b : Nat) (hb : BankAt u b S T O oc ov Q qc bs top l) (leaf : Int) (hwl : (Lit.int .i64 leaf).wf = true) => lender_c t r d l fs hf R b S T O oc ov Q qc bs hol top leaf hwl u ((hS.below h).up h.size) hb ((hTr.below h).up h.size) ((hO.below h).more h.size))
  have HLV := Lib.hid (fun (u : World) (h : Below w.heap.size w u) => tleaves_c T l R u ((hTr.below h).up h.size))
  have HCB := Lib.hid (fun (u : World) (h : Below w.heap.size w u) (y : Int) => contains_c Q qc bs y (by omega) w.heap.size u (hQ.below h))
  have HWF : Hid (∀ y, y ∈ leavesS l → (Lit.int .i64 y).wf = true) := Lib.hid (fun y hy => Fit.wf (.inr R) (leaf_mem hy))
  have hleavesl := Nat.le_trans (leaves_len l) R.le
  have HPL : Hid (∀ k : Nat, (ableP l r top ov bs k).length ≤ k) := Lib.hid (fun k => ableP_len r top ov bs k)
  unfold OpenOk at HOP
  unfold LendOk at HLN
  unfold ListOk at HLV
  clear hS hO hQ hB0 hSc hTr hT0 R
  obtain ⟨zs, hz⟩ : ∃ zs, zs = leavesS l := ⟨_, rfl⟩
  have HZ := Lib.hid hz
  rw [← hz] at HLV hleavesl
  clear hz
  go_enter Tryz.func34, Tryz.ntmps34
  go_upto_region 1 with fail
  generalize World.alloc w _ = U at *
  obtain ⟨xb, hxb⟩ : ∃ xb, xb = w.heap.size := ⟨_, rfl⟩
  rw [← hxb] at HH ⊢
  have hxU : xb < U.heap.size := by omega
  have hxw : w.heap.size ≤ xb := by omega
  clear hxb hz0
  have f0 := cells_at HH.out 0 (.slice O ov.length oc) rfl; have f1 := cells_at HH.out 1 (.slice Q bs.length qc) rfl; have f2 := cells_at HH.out 2 (.int .i64 top) rfl
  go_upto_region 4 with (go_at_call 78; (with_reducible refine (HOP.out).mono ?_); rintro e w1 ⟨b, rfl, hb, hb1⟩; have HBA := Lib.hid hb; have HB1 := Lib.hid hb1; clear hb hb1)
  have HW1 := Lib.hid (HB0.out.trans (HB1.out.mono HB0.out.size))
  have HC1 := Lib.hid ((HB1.out.block xb hxU).trans HH.out)
  have hx1 : xb < w1.heap.size := Nat.lt_of_lt_of_le hxU HB1.out.size
  have x1 : w1.cell? ⟨b, 0 + 1, none⟩ = some (.pointer (some ⟨T, 0, none⟩)) := by obtain ⟨A3, c3, _, h1, _⟩ := HBA.out; exact cells_at h1 1 _ rfl
  have x1' : w1.cell? ⟨b, 1, none⟩ = some (.pointer (some ⟨T, 0, none⟩)) := by simpa using x1
  have HLU := Lib.hid (HLV.out w1 HW1.out)
  clear f0 f1 f2 HH HOP
  go_wp2_with (go_at_call 20; (with_reducible refine (HLU.out).mono ?_); rintro e w2 ⟨A4, c4, rfl, hs2, hb2⟩; have HS2 := Lib.hid hs2; have HB2 := Lib.hid hb2; clear hs2 hb2)
  have HW2 := Lib.hid (HW1.out.trans (HB2.out.mono HW1.out.size))
  have HBA2 := Lib.hid (HBA.out.below HB2.out)
  have HC2 := Lib.hid ((HB2.out.block xb hx1).trans HC1.out)
  have hx2 : xb < w2.heap.size := Nat.lt_of_lt_of_le hx1 HB2.out.size
  clear x1 x1' HLU HLV HC1 HBA
  go_loopg [6, 22] zs.length (fun kx s6 s22 wr => ∃ (k : Nat) (B9 : Option Addr) (c9 : Nat), s22 = .int .i64 k ∧ s6 = .slice B9 (ableP l r top ov bs k).length c9 ∧ k ≤ zs.length ∧ zs.length - k ≤ kx ∧ Hid (wr.ownsRow w2.heap.size 3 1 s6 (ableP l r top ov bs k).length (St.I (ableP l r top ov bs k))) ∧ Hid (Below w2.heap.size w2 wr))
  case atStart => exact ⟨0, none, 0, rfl, rfl, by omega, by omega, Lib.hid (World.ownsRow_nil ..), Lib.hid (Below.refl _ _)⟩
  case round =>
    obtain ⟨k, B9, c9, rfl, rfl, hk, hkx, HO, HW⟩ := hrel
    have hwz := HW.out.size
    by_cases hlt : k < zs.length
    · have hltz : (k : Int) < (zs.length : Int) := by omega
      obtain ⟨a, u, rfl, hab, hu, hc⟩ := (HS2.out.below HW.out).cell1 (k := k) hlt
      unfold St.I at hu
      simp only [List.getElem?_map] at hu
      obtain ⟨y, hy0, rfl⟩ := Option.map_eq_some_iff.1 hu
      rw [HZ.out] at hy0
      have hyw := HWF.out y (List.mem_of_getElem? hy0)
      have HY := Lib.hid hy0
      have HWW := Lib.hid (HW2.out.trans (HW.out.mono HW2.out.size))
      have hol2 := HPL.out k
      have hln := HLN.out wr HWW.out b (HBA2.out.below HW.out) y hyw
      have hxr : xb < wr.heap.size := by omega
      have K0 := Lib.hid ((HW.out.block xb hx2).trans HC2.out)
      obtain ⟨o, ho⟩ : ∃ o, o = lenderS l r top ov bs y := ⟨_, rfl⟩
      rw [← ho] at hln
      have HOO := Lib.hid ho
      clear hu hy0 ho hyw
      cases o with
      | none =>
        have HTK := Lib.hid (ableP_out HY.out (able_no HOO.out.symm))
        simp only [Option.getD_none, Option.isSome_none] at hln
        have HL := Lib.hid hln
        clear hln
        go_wp2_with (go_at_call 79; (with_reducible refine (HL.out).mono ?_); rintro e w3 ⟨rfl, hb3⟩; have HB3 := Lib.hid hb3; clear hb3)
        have HO3 := Lib.hid (own_same (w' := w3) HO.out (fun q hq => HB3.out.block q (HO.out.lt q hq).2))
        go_roundg (zs.length - (k + 1))
        case measure => omega
        case rel => exact ⟨k + 1, B9, c9, by go_num, by rw [HTK.out], by omega, by omega, Lib.hid (by rw [HTK.out]; exact HO3.out), Lib.hid (HW.out.trans (HB3.out.mono hwz))⟩
      | some ln =>
        simp only [Option.getD_some, Option.isSome_some] at hln
        have HL := Lib.hid hln
        have hcb := HCB.out
        have HCY := Lib.hid (fun (u : World) (h : Below w.heap.size w u) => hcb u h y)
        clear hln hcb
        cases hyb : decide (y ∈ bs) with
        | true =>
          rw [hyb] at HCY
          have HTK := Lib.hid (ableP_in HY.out (able_is HOO.out.symm hyb))
          clear hyb
          generalize ableP l r top ov bs k = os at *
          go_upto_region 9 with (go_at_call 79; (with_reducible refine (HL.out).mono ?_); rintro e w3 ⟨rfl, hb3⟩; have HB3 := Lib.hid hb3; clear hb3)
          have HO3 := Lib.hid (own_same (w' := w3) HO.out (fun q hq => HB3.out.block q (HO.out.lt q hq).2))
          have HW3 := Lib.hid (HW.out.trans (HB3.out.mono hwz))
          have hw3 : w2.heap.size ≤ w3.heap.size := HW3.out.size
          have HWW3 := Lib.hid (HW2.out.trans (HW3.out.mono HW2.out.size))
          have f1 := cells_at ((HB3.out.block xb hxr).trans K0.out) 1 (.slice Q bs.length qc) rfl
          clear hc
          go_wp2_with (first
            | (go_at_call 80; (with_reducible refine (HCY.out _ HWW3.out).mono ?_); rintro e w9 ⟨rfl, hw9⟩; subst w9)
            | ((at_builtin; go_must (refine wpList_push_at (by rfl) _ _ 38 (by rfl) Tryz.underlying38 w2.heap.size y w3 _ os (by rfl) HO3.out (by rfl) (by omega) (by omega) ?_)); intro g cap7 w7 hown7 hg7 hl7; have HO7 := Lib.hid hown7; have HB7 := Lib.hid (push_below HW3.out (Nat.le_refl _) (by omega) HO3.out hg7); clear hown7 hg7 hl7))
          go_roundg (zs.length - (k + 1))
          case measure => omega
          case rel => exact ⟨k + 1, some ⟨g, 0, none⟩, cap7, by go_num, by rw [HTK.out]; simp, by omega, by omega, Lib.hid (by rw [HTK.out]; have := HO7.out; simpa [Sv.val] using this), HB7⟩
        | false =>
          rw [hyb] at HCY
          have HTK := Lib.hid (ableP_out HY.out (able_is HOO.out.symm hyb))
          clear hyb
          go_upto_region 9 with (go_at_call 79; (with_reducible refine (HL.out).mono ?_); rintro e w3 ⟨rfl, hb3⟩; have HB3 := Lib.hid hb3; clear hb3)
          have HO3 := Lib.hid (own_same (w' := w3) HO.out (fun q hq => HB3.out.block q (HO.out.lt q hq).2))
          have HW3 := Lib.hid (HW.out.trans (HB3.out.mono hwz))
          have HWW3 := Lib.hid (HW2.out.trans (HW3.out.mono HW2.out.size))
          have f1 := cells_at ((HB3.out.block xb hxr).trans K0.out) 1 (.slice Q bs.length qc) rfl
          clear hc
          go_wp2_with (go_at_call 80; (with_reducible refine (HCY.out _ HWW3.out).mono ?_); rintro e w9 ⟨rfl, hw9⟩; subst w9)
          go_roundg (zs.length - (k + 1))
          case measure => omega
          case rel => exact ⟨k + 1, B9, c9, by go_num, by rw [HTK.out], by omega, by omega, Lib.hid (by rw [HTK.out]; exact HO3.out), HW3⟩
    · have hltz : ¬ (k : Int) < (zs.length : Int) := by omega
      obtain rfl : k = zs.length := by omega
      have HTK : Hid (ableP l r top ov bs zs.length = ableS l r top ov bs) := Lib.hid (by rw [HZ.out]; exact ableP_all r top ov bs)
      rw [HTK.out] at HO ⊢
      go_wp2
      go_ret
      exact ⟨B9, c9, rfl, Sl.of_own HO.out, HW2.out.trans (HW.out.mono HW2.out.size)⟩
end Go.Proofs.YtpchhfhmopmagaaGreat.Le

/- The document's example of lending. -/
namespace Go.Proofs.YtpchhfhmopmagaaGreat.Le
open Go.RowKit Go.Maps Go.Proofs.YtpchhfhmopmagaaGreat.Fl Go.Proofs.YtpchhfhmopmagaaGreat.Wd Go.Proofs.YtpchhfhmopmagaaGreat.Li Go.Proofs.YtpchhfhmopmagaaGreat.Mp Go.Proofs.YtpchhfhmopmagaaGreat.Tp Go.Proofs.YtpchhfhmopmagaaGreat.Tr Go.Proofs.YtpchhfhmopmagaaGreat.Cl Go.Proofs.YtpchhfhmopmagaaGreat.So Go.Proofs.YtpchhfhmopmagaaGreat.Sw Go.Proofs.YtpchhfhmopmagaaGreat.Pa Go.Proofs.YtpchhfhmopmagaaGreat.Cf Go.Proofs.YtpchhfhmopmagaaGreat.Fi Go.Proofs.YtpchhfhmopmagaaGreat.Ga Go.Proofs.YtpchhfhmopmagaaGreat.Qu
attribute [local go_sem] run_store_float World.cell?_alloc_lt

def ThreeOk (r : Int) (w : World) (e : Ending) (w' : World) : Prop := ∃ S, e = .returned (.pointer (some ⟨S, 0, none⟩)) ∧ SetAt w' w'.heap.size S 1 r 2 ex3 [] ∧ Below w.heap.size w w'
set_option maxRecDepth 20000 in
set_option maxHeartbeats 4000000 in
theorem three_c (r : Int) (h0 : 0 ≤ r) (h2 : r ≤ 2) (w : World) : Calls Tryz.prog 77 #[.int .i64 r] w (ThreeOk r w) := by
  have HCF := Lib.hid (ex3_conf r h0 h2)
  have hh := heap_alloc_new w (.cells #[.int .i64 1, .int .i64 0, .float .f64 4607182418800017408, .int .i64 0, .int .i64 1, .int .i64 1, .int .i64 0, .int .i64 0, .int .i64 0, .bool false, .bool false] 84)
  have HBU := Lib.hid ((Below.refl w.heap.size w).alloc (Nat.le_refl _) (.cells #[.int .i64 1, .int .i64 0, .float .f64 4607182418800017408, .int .i64 0, .int .i64 1, .int .i64 1, .int .i64 0, .int .i64 0, .int .i64 0, .bool false, .bool false] 84))
  have hz : (w.alloc (.cells #[.int .i64 1, .int .i64 0, .float .f64 4607182418800017408, .int .i64 0, .int .i64 1, .int .i64 1, .int .i64 0, .int .i64 0, .int .i64 0, .bool false, .bool false] 84)).heap.size = w.heap.size + 1 := by simp
  have HH := Lib.hid hh
  clear hh h0 h2
  go_enter Tryz.func77, Tryz.ntmps77
  go_upto_region 2 with fail
  generalize World.alloc w _ = U at *
  obtain ⟨xb, hxb⟩ : ∃ xb, xb = w.heap.size := ⟨_, rfl⟩
  rw [← hxb] at HH ⊢
  have hxU : xb < U.heap.size := by omega
  have hwU : w.heap.size ≤ U.heap.size := by omega
  clear hxb hz
  have x0 := cells_at HH.out 0 (.int .i64 1) rfl; have x1 := cells_at HH.out 1 (.int .i64 0) rfl; have x2 := cells_at HH.out 2 (.float .f64 4607182418800017408) rfl; have x3 := cells_at HH.out 3 (.int .i64 0) rfl; have x4 := cells_at HH.out 4 (.int .i64 1) rfl; have x5 := cells_at HH.out 5 (.int .i64 1) rfl; have x6 := cells_at HH.out 6 (.int .i64 0) rfl; have x7 := cells_at HH.out 7 (.int .i64 0) rfl; have x8 := cells_at HH.out 8 (.int .i64 0) rfl; have x9 := cells_at HH.out 9 (.bool false) rfl; have x10 := cells_at HH.out 10 (.bool false) rfl
  go_region
  · generalize hV : World.drew _ = V at *
    have hA : V.heap[U.heap.size]? = some (.cells #[.int .i64 1, .int .i64 0, .float .f64 4607182418800017408, .int .i64 0, .int .i64 1, .int .i64 1, .int .i64 0, .int .i64 0, .int .i64 0, .bool false, .bool false] 84 (0, 0)) := by rw [← hV]; exact (Below.heap_alloc _ _ _ (by simp)).trans (heap_alloc_new _ _)
    have hB : V.heap[U.heap.size + 1]? = some (.cells #[.int .i64 1, .int .i64 0, .float .f64 4607182418800017408, .int .i64 0, .int .i64 1, .int .i64 1, .int .i64 0, .int .i64 0, .int .i64 0, .bool false, .bool false] 84 (0, 0)) := by rw [← hV]; have h := heap_alloc_new (U.alloc (.cells #[.int .i64 1, .int .i64 0, .float .f64 4607182418800017408, .int .i64 0, .int .i64 1, .int .i64 1, .int .i64 0, .int .i64 0, .int .i64 0, .bool false, .bool false] 84)) (.cells #[.int .i64 1, .int .i64 0, .float .f64 4607182418800017408, .int .i64 0, .int .i64 1, .int .i64 1, .int .i64 0, .int .i64 0, .int .i64 0, .bool false, .bool false] 84); rw [show (U.alloc (.cells #[.int .i64 1, .int .i64 0, .float .f64 4607182418800017408, .int .i64 0, .int .i64 1, .int .i64 1, .int .i64 0, .int .i64 0, .int .i64 0, .bool false, .bool false] 84)).heap.size = U.heap.size + 1 by simp] at h; exact h
    have hVB : Below U.heap.size U V := by rw [← hV]; exact (((Below.refl _ U).alloc (Nat.le_refl _) _).alloc (by simp) _).drew
    have hVs : V.heap.size = U.heap.size + 2 := by rw [← hV]; simp
    have hX := (hVB.block xb hxU).trans HH.out
    obtain ⟨b1, hb1⟩ : ∃ b1, b1 = U.heap.size := ⟨_, rfl⟩
    obtain ⟨b2, hb2⟩ : ∃ b2, b2 = U.heap.size + 1 := ⟨_, rfl⟩
    rw [← hb1] at hA
    rw [← hb2] at hB
    rw [← hb2, ← hb1]
    have hne : b1 ≠ b2 := by omega
    have hne' : b2 ≠ b1 := by omega
    have hxP : xb ≠ b1 := by omega
    have hxQ : xb ≠ b2 := by omega
    have hP := hA
    have hQ := hB
    have hsP : b1 < V.heap.size := by omega
    have hsQ : b2 < V.heap.size := by omega
    have hUP : U.heap.size ≤ b1 := by omega
    have hUQ : U.heap.size ≤ b2 := by omega
    have HVB := Lib.hid hVB
    clear hA hB hV hb1 hb2 hVB x0 x1 x2 x3 x4 x5 x6 x7 x8 x9 x10
    have s1 := set_cells hP 0 (.int .i64 2)
    have s2 := set_cells s1 1 (.int .i64 1)
    have s3 := set_cells s2 2 (.float .f64 4602678819172646912)
    have q3 := (Below.heap_setCell _ ⟨b1, 2, none⟩ (.float .f64 4602678819172646912) _ hne').trans ((Below.heap_setCell _ ⟨b1, 1, none⟩ (.int .i64 1) _ hne').trans ((Below.heap_setCell V ⟨b1, 0, none⟩ (.int .i64 2) _ hne').trans hQ))
    have u1 := set_cells q3 0 (.int .i64 3)
    have u2 := set_cells u1 1 (.int .i64 1)
    have u3 := set_cells u2 2 (.float .f64 4602678819172646912)
    have p6 := (Below.heap_setCell _ ⟨b2, 2, none⟩ (.float .f64 4602678819172646912) _ hne).trans ((Below.heap_setCell _ ⟨b2, 1, none⟩ (.int .i64 1) _ hne).trans ((Below.heap_setCell _ ⟨b2, 0, none⟩ (.int .i64 3) _ hne).trans s3))
    have x3 := (Below.heap_setCell _ ⟨b1, 2, none⟩ (.float .f64 4602678819172646912) _ hxP).trans ((Below.heap_setCell _ ⟨b1, 1, none⟩ (.int .i64 1) _ hxP).trans ((Below.heap_setCell V ⟨b1, 0, none⟩ (.int .i64 2) _ hxP).trans hX))
    have x6 := (Below.heap_setCell _ ⟨b2, 2, none⟩ (.float .f64 4602678819172646912) _ hxQ).trans ((Below.heap_setCell _ ⟨b2, 1, none⟩ (.int .i64 1) _ hxQ).trans ((Below.heap_setCell _ ⟨b2, 0, none⟩ (.int .i64 3) _ hxQ).trans x3))
    have hb6 := (((((HVB.out.setCell hUP (.int .i64 2) (p := ⟨b1, 0, none⟩)).setCell hUP (.int .i64 1) (p := ⟨b1, 1, none⟩)).setCell hUP (.float .f64 4602678819172646912) (p := ⟨b1, 2, none⟩)).setCell hUQ (.int .i64 3) (p := ⟨b2, 0, none⟩)).setCell hUQ (.int .i64 1) (p := ⟨b2, 1, none⟩)).setCell hUQ (.float .f64 4602678819172646912) (p := ⟨b2, 2, none⟩)
    simp only [List.setIfInBounds_toArray, List.set_cons_succ, List.set_cons_zero] at u3 p6 x6
    have HU3 := Lib.hid u3; have HP6 := Lib.hid p6; have HX6 := Lib.hid x6; have HB6 := Lib.hid hb6
    have y0 := cells_at hP 0 (.int .i64 1) rfl; have y1 := cells_at hP 1 (.int .i64 0) rfl; have y2 := cells_at hP 2 (.float .f64 4607182418800017408) rfl
    have z0 := cells_at hQ 0 (.int .i64 1) rfl; have z1 := cells_at hQ 1 (.int .i64 0) rfl; have z2 := cells_at hQ 2 (.float .f64 4607182418800017408) rfl
    have i0 := frozen_at' hP 0; have i1 := frozen_at' hP 1; have i2 := frozen_at' hP 2; have j0 := frozen_at' hQ 0; have j1 := frozen_at' hQ 1; have j2 := frozen_at' hQ 2
    clear s1 s2 s3 q3 u1 u2 u3 p6 x3 x6 hb6
    go_upto_region 5 with fail
    generalize World.setCell _ _ _ = W at *
    clear y0 y1 y2 z0 z1 z2 i0 i1 i2 j0 j1 j2 hP hQ hX
    have x0 := cells_at HX6.out 0 (.int .i64 1) rfl; have x1 := cells_at HX6.out 1 (.int .i64 0) rfl; have x2 := cells_at HX6.out 2 (.float .f64 4607182418800017408) rfl; have x3 := cells_at HX6.out 3 (.int .i64 0) rfl; have x4 := cells_at HX6.out 4 (.int .i64 1) rfl; have x5 := cells_at HX6.out 5 (.int .i64 1) rfl; have x6 := cells_at HX6.out 6 (.int .i64 0) rfl; have x7 := cells_at HX6.out 7 (.int .i64 0) rfl; have x8 := cells_at HX6.out 8 (.int .i64 0) rfl; have x9 := cells_at HX6.out 9 (.bool false) rfl; have x10 := cells_at HX6.out 10 (.bool false) rfl
    have p0 := cells_at HP6.out 0 (.int .i64 2) rfl; have p1 := cells_at HP6.out 1 (.int .i64 1) rfl; have p2 := cells_at HP6.out 2 (.float .f64 4602678819172646912) rfl; have p3 := cells_at HP6.out 3 (.int .i64 0) rfl; have p4 := cells_at HP6.out 4 (.int .i64 1) rfl; have p5 := cells_at HP6.out 5 (.int .i64 1) rfl; have p6 := cells_at HP6.out 6 (.int .i64 0) rfl; have p7 := cells_at HP6.out 7 (.int .i64 0) rfl; have p8 := cells_at HP6.out 8 (.int .i64 0) rfl; have p9 := cells_at HP6.out 9 (.bool false) rfl; have p10 := cells_at HP6.out 10 (.bool false) rfl
    have q0 := cells_at HU3.out 0 (.int .i64 3) rfl; have q1 := cells_at HU3.out 1 (.int .i64 1) rfl; have q2 := cells_at HU3.out 2 (.float .f64 4602678819172646912) rfl; have q3 := cells_at HU3.out 3 (.int .i64 0) rfl; have q4 := cells_at HU3.out 4 (.int .i64 1) rfl; have q5 := cells_at HU3.out 5 (.int .i64 1) rfl; have q6 := cells_at HU3.out 6 (.int .i64 0) rfl; have q7 := cells_at HU3.out 7 (.int .i64 0) rfl; have q8 := cells_at HU3.out 8 (.int .i64 0) rfl; have q9 := cells_at HU3.out 9 (.bool false) rfl; have q10 := cells_at HU3.out 10 (.bool false) rfl
    have hrow := row_new W 84 (ex3.flatMap Cls.cells)
    have hbw := (Below.refl W.heap.size W).alloc (Nat.le_refl _) (.cells (ex3.flatMap Cls.cells).toArray 84)
    have HCO := Lib.hid (compile_c 1 r 2 (by decide) (some ⟨W.heap.size, 0, none⟩) 3 3 none 0 0 ex3 [] ex3_share (by decide) (by decide) (Nat.le_refl _) _ (row_holds hrow rfl _ hrow.lt) (.inl ⟨rfl, rfl⟩))
    unfold CompCOk cfV at HCO
    have HBW := Lib.hid hbw
    clear hrow hbw
    have hBW := HB6.out.size
    go_wp2_with (go_at_call 18; refine (HCO.out).mono ?_; rintro e w5 (⟨hn, _⟩ | ⟨_, S, rfl, hS, hle, hb5⟩); exact absurd HCF.out hn; have HS5 := Lib.hid hS; have HB5 := Lib.hid (HBW.out.trans (hb5.mono HBW.out.size)); clear hS hle hb5)
    go_ret
    exact ⟨S, rfl, HS5.out, HBU.out.trans ((HB6.out.trans (HB5.out.mono hBW)).mono hwU)⟩
  · generalize hV : World.drew _ = V at *
    have hA : V.heap[U.heap.size]? = some (.cells #[.int .i64 1, .int .i64 0, .float .f64 4607182418800017408, .int .i64 0, .int .i64 1, .int .i64 1, .int .i64 0, .int .i64 0, .int .i64 0, .bool false, .bool false] 84 (0, 0)) := by rw [← hV]; exact (Below.heap_alloc _ _ _ (by simp)).trans (heap_alloc_new _ _)
    have hB : V.heap[U.heap.size + 1]? = some (.cells #[.int .i64 1, .int .i64 0, .float .f64 4607182418800017408, .int .i64 0, .int .i64 1, .int .i64 1, .int .i64 0, .int .i64 0, .int .i64 0, .bool false, .bool false] 84 (0, 0)) := by rw [← hV]; have h := heap_alloc_new (U.alloc (.cells #[.int .i64 1, .int .i64 0, .float .f64 4607182418800017408, .int .i64 0, .int .i64 1, .int .i64 1, .int .i64 0, .int .i64 0, .int .i64 0, .bool false, .bool false] 84)) (.cells #[.int .i64 1, .int .i64 0, .float .f64 4607182418800017408, .int .i64 0, .int .i64 1, .int .i64 1, .int .i64 0, .int .i64 0, .int .i64 0, .bool false, .bool false] 84); rw [show (U.alloc (.cells #[.int .i64 1, .int .i64 0, .float .f64 4607182418800017408, .int .i64 0, .int .i64 1, .int .i64 1, .int .i64 0, .int .i64 0, .int .i64 0, .bool false, .bool false] 84)).heap.size = U.heap.size + 1 by simp] at h; exact h
    have hVB : Below U.heap.size U V := by rw [← hV]; exact (((Below.refl _ U).alloc (Nat.le_refl _) _).alloc (by simp) _).drew
    have hVs : V.heap.size = U.heap.size + 2 := by rw [← hV]; simp
    have hX := (hVB.block xb hxU).trans HH.out
    obtain ⟨b1, hb1⟩ : ∃ b1, b1 = U.heap.size := ⟨_, rfl⟩
    obtain ⟨b2, hb2⟩ : ∃ b2, b2 = U.heap.size + 1 := ⟨_, rfl⟩
    rw [← hb1] at hA
    rw [← hb2] at hB
    rw [← hb2, ← hb1]
    have hne : b2 ≠ b1 := by omega
    have hne' : b1 ≠ b2 := by omega
    have hxP : xb ≠ b2 := by omega
    have hxQ : xb ≠ b1 := by omega
    have hP := hB
    have hQ := hA
    have hsP : b2 < V.heap.size := by omega
    have hsQ : b1 < V.heap.size := by omega
    have hUP : U.heap.size ≤ b2 := by omega
    have hUQ : U.heap.size ≤ b1 := by omega
    have HVB := Lib.hid hVB
    clear hA hB hV hb1 hb2 hVB x0 x1 x2 x3 x4 x5 x6 x7 x8 x9 x10
    have s1 := set_cells hP 0 (.int .i64 2)
    have s2 := set_cells s1 1 (.int .i64 1)
    have s3 := set_cells s2 2 (.float .f64 4602678819172646912)
    have q3 := (Below.heap_setCell _ ⟨b2, 2, none⟩ (.float .f64 4602678819172646912) _ hne').trans ((Below.heap_setCell _ ⟨b2, 1, none⟩ (.int .i64 1) _ hne').trans ((Below.heap_setCell V ⟨b2, 0, none⟩ (.int .i64 2) _ hne').trans hQ))
    have u1 := set_cells q3 0 (.int .i64 3)
    have u2 := set_cells u1 1 (.int .i64 1)
    have u3 := set_cells u2 2 (.float .f64 4602678819172646912)
    have p6 := (Below.heap_setCell _ ⟨b1, 2, none⟩ (.float .f64 4602678819172646912) _ hne).trans ((Below.heap_setCell _ ⟨b1, 1, none⟩ (.int .i64 1) _ hne).trans ((Below.heap_setCell _ ⟨b1, 0, none⟩ (.int .i64 3) _ hne).trans s3))
    have x3 := (Below.heap_setCell _ ⟨b2, 2, none⟩ (.float .f64 4602678819172646912) _ hxP).trans ((Below.heap_setCell _ ⟨b2, 1, none⟩ (.int .i64 1) _ hxP).trans ((Below.heap_setCell V ⟨b2, 0, none⟩ (.int .i64 2) _ hxP).trans hX))
    have x6 := (Below.heap_setCell _ ⟨b1, 2, none⟩ (.float .f64 4602678819172646912) _ hxQ).trans ((Below.heap_setCell _ ⟨b1, 1, none⟩ (.int .i64 1) _ hxQ).trans ((Below.heap_setCell _ ⟨b1, 0, none⟩ (.int .i64 3) _ hxQ).trans x3))
    have hb6 := (((((HVB.out.setCell hUP (.int .i64 2) (p := ⟨b2, 0, none⟩)).setCell hUP (.int .i64 1) (p := ⟨b2, 1, none⟩)).setCell hUP (.float .f64 4602678819172646912) (p := ⟨b2, 2, none⟩)).setCell hUQ (.int .i64 3) (p := ⟨b1, 0, none⟩)).setCell hUQ (.int .i64 1) (p := ⟨b1, 1, none⟩)).setCell hUQ (.float .f64 4602678819172646912) (p := ⟨b1, 2, none⟩)
    simp only [List.setIfInBounds_toArray, List.set_cons_succ, List.set_cons_zero] at u3 p6 x6
    have HU3 := Lib.hid u3; have HP6 := Lib.hid p6; have HX6 := Lib.hid x6; have HB6 := Lib.hid hb6
    have y0 := cells_at hP 0 (.int .i64 1) rfl; have y1 := cells_at hP 1 (.int .i64 0) rfl; have y2 := cells_at hP 2 (.float .f64 4607182418800017408) rfl
    have z0 := cells_at hQ 0 (.int .i64 1) rfl; have z1 := cells_at hQ 1 (.int .i64 0) rfl; have z2 := cells_at hQ 2 (.float .f64 4607182418800017408) rfl
    have i0 := frozen_at' hP 0; have i1 := frozen_at' hP 1; have i2 := frozen_at' hP 2; have j0 := frozen_at' hQ 0; have j1 := frozen_at' hQ 1; have j2 := frozen_at' hQ 2
    clear s1 s2 s3 q3 u1 u2 u3 p6 x3 x6 hb6
    go_upto_region 5 with fail
    generalize World.setCell _ _ _ = W at *
    clear y0 y1 y2 z0 z1 z2 i0 i1 i2 j0 j1 j2 hP hQ hX
    have x0 := cells_at HX6.out 0 (.int .i64 1) rfl; have x1 := cells_at HX6.out 1 (.int .i64 0) rfl; have x2 := cells_at HX6.out 2 (.float .f64 4607182418800017408) rfl; have x3 := cells_at HX6.out 3 (.int .i64 0) rfl; have x4 := cells_at HX6.out 4 (.int .i64 1) rfl; have x5 := cells_at HX6.out 5 (.int .i64 1) rfl; have x6 := cells_at HX6.out 6 (.int .i64 0) rfl; have x7 := cells_at HX6.out 7 (.int .i64 0) rfl; have x8 := cells_at HX6.out 8 (.int .i64 0) rfl; have x9 := cells_at HX6.out 9 (.bool false) rfl; have x10 := cells_at HX6.out 10 (.bool false) rfl
    have p0 := cells_at HP6.out 0 (.int .i64 2) rfl; have p1 := cells_at HP6.out 1 (.int .i64 1) rfl; have p2 := cells_at HP6.out 2 (.float .f64 4602678819172646912) rfl; have p3 := cells_at HP6.out 3 (.int .i64 0) rfl; have p4 := cells_at HP6.out 4 (.int .i64 1) rfl; have p5 := cells_at HP6.out 5 (.int .i64 1) rfl; have p6 := cells_at HP6.out 6 (.int .i64 0) rfl; have p7 := cells_at HP6.out 7 (.int .i64 0) rfl; have p8 := cells_at HP6.out 8 (.int .i64 0) rfl; have p9 := cells_at HP6.out 9 (.bool false) rfl; have p10 := cells_at HP6.out 10 (.bool false) rfl
    have q0 := cells_at HU3.out 0 (.int .i64 3) rfl; have q1 := cells_at HU3.out 1 (.int .i64 1) rfl; have q2 := cells_at HU3.out 2 (.float .f64 4602678819172646912) rfl; have q3 := cells_at HU3.out 3 (.int .i64 0) rfl; have q4 := cells_at HU3.out 4 (.int .i64 1) rfl; have q5 := cells_at HU3.out 5 (.int .i64 1) rfl; have q6 := cells_at HU3.out 6 (.int .i64 0) rfl; have q7 := cells_at HU3.out 7 (.int .i64 0) rfl; have q8 := cells_at HU3.out 8 (.int .i64 0) rfl; have q9 := cells_at HU3.out 9 (.bool false) rfl; have q10 := cells_at HU3.out 10 (.bool false) rfl
    have hrow := row_new W 84 (ex3.flatMap Cls.cells)
    have hbw := (Below.refl W.heap.size W).alloc (Nat.le_refl _) (.cells (ex3.flatMap Cls.cells).toArray 84)
    have HCO := Lib.hid (compile_c 1 r 2 (by decide) (some ⟨W.heap.size, 0, none⟩) 3 3 none 0 0 ex3 [] ex3_share (by decide) (by decide) (Nat.le_refl _) _ (row_holds hrow rfl _ hrow.lt) (.inl ⟨rfl, rfl⟩))
    unfold CompCOk cfV at HCO
    have HBW := Lib.hid hbw
    clear hrow hbw
    have hBW := HB6.out.size
    go_wp2_with (go_at_call 18; refine (HCO.out).mono ?_; rintro e w5 (⟨hn, _⟩ | ⟨_, S, rfl, hS, hle, hb5⟩); exact absurd HCF.out hn; have HS5 := Lib.hid hS; have HB5 := Lib.hid (HBW.out.trans (hb5.mono HBW.out.size)); clear hS hle hb5)
    go_ret
    exact ⟨S, rfl, HS5.out, HBU.out.trans ((HB6.out.trans (HB5.out.mono hBW)).mono hwU)⟩
end Go.Proofs.YtpchhfhmopmagaaGreat.Le

/- The document's example of lending: true. -/
namespace Go.Proofs.YtpchhfhmopmagaaGreat.Le
open Go.RowKit Go.Maps Go.Proofs.YtpchhfhmopmagaaGreat.Fl Go.Proofs.YtpchhfhmopmagaaGreat.Wd Go.Proofs.YtpchhfhmopmagaaGreat.Li Go.Proofs.YtpchhfhmopmagaaGreat.Mp Go.Proofs.YtpchhfhmopmagaaGreat.Tp Go.Proofs.YtpchhfhmopmagaaGreat.Tr Go.Proofs.YtpchhfhmopmagaaGreat.Cl Go.Proofs.YtpchhfhmopmagaaGreat.So Go.Proofs.YtpchhfhmopmagaaGreat.Sw Go.Proofs.YtpchhfhmopmagaaGreat.Pa Go.Proofs.YtpchhfhmopmagaaGreat.Cf Go.Proofs.YtpchhfhmopmagaaGreat.Fi Go.Proofs.YtpchhfhmopmagaaGreat.Ga Go.Proofs.YtpchhfhmopmagaaGreat.Qu
attribute [local go_sem] run_store_float Lx.opX Rel.oneOk
attribute [local irreducible] Lx.wpX

theorem six (w : World) (o1 o2 o3 o4 o5 o6 : Obj) :
    let E := (((((w.alloc o1).alloc o2).alloc o3).alloc o4).alloc o5).alloc o6
    E.heap[w.heap.size]? = some o1 ∧ E.heap[w.heap.size + 1]? = some o2 ∧ E.heap[w.heap.size + 1 + 1]? = some o3 ∧ E.heap[w.heap.size + 1 + 1 + 1]? = some o4 ∧ E.heap[w.heap.size + 1 + 1 + 1 + 1]? = some o5 ∧ E.heap[w.heap.size + 1 + 1 + 1 + 1 + 1]? = some o6 ∧ Below w.heap.size w E ∧ E.heap.size = w.heap.size + 6 := by
  have keep : ∀ {w : World} {k : Nat} {x : Obj} (o : Obj), w.heap[k]? = some x → (w.alloc o).heap[k]? = some x := fun {w k x} o h => (Below.heap_alloc w o k (Array.getElem?_eq_some_iff.1 h).1).trans h
  have z1 : (w.alloc o1).heap.size = w.heap.size + 1 := by simp
  have z2 : ((w.alloc o1).alloc o2).heap.size = w.heap.size + 2 := by simp
  have z3 : (((w.alloc o1).alloc o2).alloc o3).heap.size = w.heap.size + 3 := by simp
  have z4 : ((((w.alloc o1).alloc o2).alloc o3).alloc o4).heap.size = w.heap.size + 4 := by simp
  have z5 : (((((w.alloc o1).alloc o2).alloc o3).alloc o4).alloc o5).heap.size = w.heap.size + 5 := by simp
  have z6 : ((((((w.alloc o1).alloc o2).alloc o3).alloc o4).alloc o5).alloc o6).heap.size = w.heap.size + 6 := by simp
  have n1 := heap_alloc_new w o1
  have n2 := heap_alloc_new (w.alloc o1) o2
  have n3 := heap_alloc_new ((w.alloc o1).alloc o2) o3
  have n4 := heap_alloc_new (((w.alloc o1).alloc o2).alloc o3) o4
  have n5 := heap_alloc_new ((((w.alloc o1).alloc o2).alloc o3).alloc o4) o5
  have n6 := heap_alloc_new (((((w.alloc o1).alloc o2).alloc o3).alloc o4).alloc o5) o6
  rw [z1] at n2; rw [z2] at n3; rw [z3] at n4; rw [z4] at n5; rw [z5] at n6
  exact ⟨keep _ (keep _ (keep _ (keep _ (keep _ n1)))), keep _ (keep _ (keep _ (keep _ n2))), keep _ (keep _ (keep _ n3)), keep _ (keep _ n4), keep _ n5, n6,
    ((((((Below.refl _ w).alloc (Nat.le_refl _) _).alloc (by omega) _).alloc (by omega) _).alloc (by omega) _).alloc (by omega) _).alloc (by omega) _, z6⟩
theorem sl_row {w : World} {g : Nat} {t : TypeId} {zs : List Int} (h : w.heap[g]? = some (.cells (St.I zs).toArray t (0, 0))) : Sl w w.heap.size 1 (some ⟨g, 0, none⟩) zs.length (St.I zs) :=
  ⟨by simp [St.I], fun _ => ⟨⟨g, 0, none⟩, rfl, (Array.getElem?_eq_some_iff.1 h).1, fun j u hu => by
    have := cells_at h j u (by rw [List.getElem?_toArray]; exact hu)
    rw [Addr.add_lit]; simpa using this⟩⟩
set_option maxRecDepth 20000 in
set_option maxHeartbeats 4000000 in
theorem lives27 (w : World) : Calls Tryz.prog 32 #[] w fun e w' => e = .returned (.bool true) ∧ Below w.heap.size w w' := by
  have h6 := six w (.cells #[.int .i64 2] 3) (.cells #[.int .i64 2] 3) (.cells #[.slice (some ⟨w.heap.size, 0, none⟩) 1 1, .slice (some ⟨w.heap.size + 1, 0, none⟩) 1 1, .int .i64 1] 62) (.cells #[.int .i64 2] 3) (.cells #[.int .i64 2, .int .i64 3] 3) (.cells #[.slice (some ⟨w.heap.size + 1 + 1 + 1, 0, none⟩) 1 1, .slice (some ⟨w.heap.size + 1 + 1 + 1 + 1, 0, none⟩) 2 2, .int .i64 0] 62)
  simp only at h6
  obtain ⟨h0, h1, h2, h3, h4, h5, hb, hz⟩ := h6
  have H0 := Lib.hid h0; have H1 := Lib.hid h1; have H2 := Lib.hid h2; have H3 := Lib.hid h3; have H4 := Lib.hid h4; have H5 := Lib.hid h5; have HB := Lib.hid hb; have HZ := Lib.hid hz
  clear h0 h1 h2 h3 h4 h5 hb hz
  go_enter Tryz.func32, Tryz.ntmps32
  go_upto_region 3 with fail
  generalize World.alloc _ _ = U at *
  have hz := HZ.out
  have HO1 := Lib.hid (sl_row (zs := [2]) H0.out); have HQ1 := Lib.hid (sl_row (zs := [2]) H1.out); have HO2 := Lib.hid (sl_row (zs := [2]) H3.out); have HQ2 := Lib.hid (sl_row (zs := [2, 3]) H4.out)
  obtain ⟨xb, hxb⟩ : ∃ xb, xb = w.heap.size + 1 + 1 := ⟨_, rfl⟩
  obtain ⟨yb, hyb⟩ : ∃ yb, yb = w.heap.size + 1 + 1 + 1 + 1 + 1 := ⟨_, rfl⟩
  obtain ⟨s0, hs0⟩ : ∃ s0, s0 = w.heap.size := ⟨_, rfl⟩
  obtain ⟨s1, hs1⟩ : ∃ s1, s1 = w.heap.size + 1 := ⟨_, rfl⟩
  obtain ⟨s3, hs3⟩ : ∃ s3, s3 = w.heap.size + 1 + 1 + 1 := ⟨_, rfl⟩
  obtain ⟨s4, hs4⟩ : ∃ s4, s4 = w.heap.size + 1 + 1 + 1 + 1 := ⟨_, rfl⟩
  have hxl : xb < U.heap.size := by omega
  have hyl : yb < U.heap.size := by omega
  rw [← hyb] at H5 ⊢
  rw [← hs4] at H5 HQ2
  rw [← hs3] at H5 HO2
  rw [← hxb] at H2 ⊢
  rw [← hs1] at H2 HQ1
  rw [← hs0] at H2 HO1
  clear hxb hyb hs0 hs1 hs3 hs4 hz HZ H0 H1 H3 H4
  have HSB : Hid (∀ q, (q = xb ∨ q = yb) → q < U.heap.size) := Lib.hid (fun q hq => by rcases hq with e | e <;> omega)
  have K0 := Lib.hid (Below.refl U.heap.size U)
  have hUU := HB.out.size
  have hsz0 := K0.out.size
  have HSb0 : Hid (∀ q, (q = xb ∨ q = yb) → q < U.heap.size) := Lib.hid (fun q hq => Nat.lt_of_lt_of_le (HSB.out q hq) hsz0)
  have k0 := (K0.out.block xb hxl).trans H2.out
  have f0 := cells_at k0 0 (.slice (some ⟨s0, 0, none⟩) 1 1) rfl; have f1 := cells_at k0 1 (.slice (some ⟨s1, 0, none⟩) 1 1) rfl; have f2 := cells_at k0 2 (.int .i64 1) rfl
  have HD0 := Lib.hid ((Below.refl U.heap.size U).drew)
  have HLN0 := Lib.hid (fun (u : World) (S : Nat) (hu : Below U.heap.size U u) (hS : SetAt u u.heap.size S 1 0 2 ex3 []) => slender_c 1 0 2 ex3 [] (by decide) ex3_tree S (some ⟨s0, 0, none⟩) 1 [2] (some ⟨s1, 0, none⟩) 1 [2] (by decide) (by decide) 1 2 (by decide) u hS ((HO1.out.below (K0.out.trans (hu.mono hsz0))).more (Nat.le_trans hsz0 hu.size)) ((HQ1.out.below (K0.out.trans (hu.mono hsz0))).more (Nat.le_trans hsz0 hu.size)))
  unfold LendOk at HLN0
  rw [ex3_0] at HLN0
  simp only [Option.getD_some, Option.isSome_some, List.length_cons, List.length_nil, Nat.zero_add, Nat.reduceAdd] at HLN0
  clear k0
  go_upto_region 3 with fail
  refine Lx.wp_region_Y 7 (fun w' => ∃ z, w' = Lx.kept (fun q => q = xb ∨ q = yb) U.drew z) [0, 2] (by kernel_rfl) (by kernel_rfl) (Lx.kept_of (Lx.Keeps.refl _ _)) ?_
  simp only [List.take_succ_cons, List.take_zero, List.drop_succ_cons, List.drop_zero]
  repeat (refine Lx.wpX_step (fun K hK => ?_); first | (refine Lx.opX_free (by rfl) (by rfl) (by rfl) ?_; go_big_quiet_op; refine hK _ _ ?_; clear hK K) | (refine Lx.opX_nil (by rfl) (by rfl) (by rfl) (by rfl) ?_; refine hK _ _ ?_; clear hK K; simp only [Act.put, List.setIfInBounds_toArray, List.set_cons_succ, List.set_cons_zero]) | (refine Lx.opX_skip (by rfl) ?_; refine hK _ _ ?_; clear hK K; simp only [Act.put, List.setIfInBounds_toArray, List.set_cons_succ, List.set_cons_zero]))
  refine Lx.wpX_step (fun K hK => ?_)
  refine Lx.opX_law (by rfl) (by rfl) ?_
  go_wp2_with (go_at_call 77; (with_reducible refine (three_c 0 (by decide) (by decide) _).mono ?_); rintro e wa0 ⟨S0, rfl, hS, hb5⟩; have hbk := HD0.out.trans (hb5.mono HD0.out.size); have HA0 := Lib.hid hbk; have HSS0 := Lib.hid hS; clear hb5 hbk hS)
  refine Lx.nq_mk (Lx.kept_of (fun y hy => HA0.out.block y (HSb0.out y hy))) (hK _ _ ?_)
  clear hK K
  repeat (refine Lx.wpX_step (fun K hK => ?_); first | (refine Lx.opX_free (by rfl) (by rfl) (by rfl) ?_; go_big_quiet_op; refine hK _ _ ?_; clear hK K) | (refine Lx.opX_nil (by rfl) (by rfl) (by rfl) (by rfl) ?_; refine hK _ _ ?_; clear hK K; simp only [Act.put, List.setIfInBounds_toArray, List.set_cons_succ, List.set_cons_zero]) | (refine Lx.opX_skip (by rfl) ?_; refine hK _ _ ?_; clear hK K; simp only [Act.put, List.setIfInBounds_toArray, List.set_cons_succ, List.set_cons_zero]))
  refine Lx.wpX_step (fun K hK => ?_)
  refine Lx.opX_law (by rfl) (by rfl) ?_
  go_wp2_with (go_at_call 33; (with_reducible refine (HLN0.out _ _ HA0.out HSS0.out).mono ?_); rintro e w0f ⟨rfl, hb5⟩; have hbk := HA0.out.trans (hb5.mono HA0.out.size); have HF0 := Lib.hid hbk; clear hb5 hbk)
  refine Lx.nq_mk (Lx.kept_of (fun y hy => HF0.out.block y (HSb0.out y hy))) (hK _ _ ?_)
  clear hK K
  repeat (refine Lx.wpX_step (fun K hK => ?_); first | (refine Lx.opX_free (by rfl) (by rfl) (by rfl) ?_; go_big_quiet_op; refine hK _ _ ?_; clear hK K) | (refine Lx.opX_nil (by rfl) (by rfl) (by rfl) (by rfl) ?_; refine hK _ _ ?_; clear hK K; simp only [Act.put, List.setIfInBounds_toArray, List.set_cons_succ, List.set_cons_zero]) | (refine Lx.opX_skip (by rfl) ?_; refine hK _ _ ?_; clear hK K; simp only [Act.put, List.setIfInBounds_toArray, List.set_cons_succ, List.set_cons_zero]))
  refine Lx.wpX_nil ?_
  have K1 := Lib.hid (K0.out.trans (HF0.out.mono hsz0))
  clear f0 f1 f2 HLN0 HSS0 HA0 HD0
  have hsz1 := K1.out.size
  have HSb1 : Hid (∀ q, (q = xb ∨ q = yb) → q < w0f.heap.size) := Lib.hid (fun q hq => Nat.lt_of_lt_of_le (HSB.out q hq) hsz1)
  have k0 := (K1.out.block xb hxl).trans H2.out
  have f0 := cells_at k0 0 (.slice (some ⟨s0, 0, none⟩) 1 1) rfl; have f1 := cells_at k0 1 (.slice (some ⟨s1, 0, none⟩) 1 1) rfl; have f2 := cells_at k0 2 (.int .i64 1) rfl
  have HD1 := Lib.hid ((Below.refl w0f.heap.size w0f).drew)
  have HLN1 := Lib.hid (fun (u : World) (S : Nat) (hu : Below w0f.heap.size w0f u) (hS : SetAt u u.heap.size S 1 1 2 ex3 []) => slender_c 1 1 2 ex3 [] (by decide) ex3_tree S (some ⟨s0, 0, none⟩) 1 [2] (some ⟨s1, 0, none⟩) 1 [2] (by decide) (by decide) 1 2 (by decide) u hS ((HO1.out.below (K1.out.trans (hu.mono hsz1))).more (Nat.le_trans hsz1 hu.size)) ((HQ1.out.below (K1.out.trans (hu.mono hsz1))).more (Nat.le_trans hsz1 hu.size)))
  unfold LendOk at HLN1
  rw [ex3_1] at HLN1
  simp only [Option.getD_none, Option.isSome_none, List.length_cons, List.length_nil, Nat.zero_add, Nat.reduceAdd] at HLN1
  clear k0
  go_upto_region 4 with fail
  refine Lx.wp_region_Y 7 (fun w' => ∃ z, w' = Lx.kept (fun q => q = xb ∨ q = yb) w0f.drew z) [0, 2] (by kernel_rfl) (by kernel_rfl) (Lx.kept_of (Lx.Keeps.refl _ _)) ?_
  simp only [List.take_succ_cons, List.take_zero, List.drop_succ_cons, List.drop_zero]
  repeat (refine Lx.wpX_step (fun K hK => ?_); first | (refine Lx.opX_free (by rfl) (by rfl) (by rfl) ?_; go_big_quiet_op; refine hK _ _ ?_; clear hK K) | (refine Lx.opX_nil (by rfl) (by rfl) (by rfl) (by rfl) ?_; refine hK _ _ ?_; clear hK K; simp only [Act.put, List.setIfInBounds_toArray, List.set_cons_succ, List.set_cons_zero]) | (refine Lx.opX_skip (by rfl) ?_; refine hK _ _ ?_; clear hK K; simp only [Act.put, List.setIfInBounds_toArray, List.set_cons_succ, List.set_cons_zero]))
  refine Lx.wpX_step (fun K hK => ?_)
  refine Lx.opX_law (by rfl) (by rfl) ?_
  go_wp2_with (go_at_call 77; (with_reducible refine (three_c 1 (by decide) (by decide) _).mono ?_); rintro e wa1 ⟨S1, rfl, hS, hb5⟩; have hbk := HD1.out.trans (hb5.mono HD1.out.size); have HA1 := Lib.hid hbk; have HSS1 := Lib.hid hS; clear hb5 hbk hS)
  refine Lx.nq_mk (Lx.kept_of (fun y hy => HA1.out.block y (HSb1.out y hy))) (hK _ _ ?_)
  clear hK K
  repeat (refine Lx.wpX_step (fun K hK => ?_); first | (refine Lx.opX_free (by rfl) (by rfl) (by rfl) ?_; go_big_quiet_op; refine hK _ _ ?_; clear hK K) | (refine Lx.opX_nil (by rfl) (by rfl) (by rfl) (by rfl) ?_; refine hK _ _ ?_; clear hK K; simp only [Act.put, List.setIfInBounds_toArray, List.set_cons_succ, List.set_cons_zero]) | (refine Lx.opX_skip (by rfl) ?_; refine hK _ _ ?_; clear hK K; simp only [Act.put, List.setIfInBounds_toArray, List.set_cons_succ, List.set_cons_zero]))
  refine Lx.wpX_step (fun K hK => ?_)
  refine Lx.opX_law (by rfl) (by rfl) ?_
  go_wp2_with (go_at_call 33; (with_reducible refine (HLN1.out _ _ HA1.out HSS1.out).mono ?_); rintro e w1f ⟨rfl, hb5⟩; have hbk := HA1.out.trans (hb5.mono HA1.out.size); have HF1 := Lib.hid hbk; clear hb5 hbk)
  refine Lx.nq_mk (Lx.kept_of (fun y hy => HF1.out.block y (HSb1.out y hy))) (hK _ _ ?_)
  clear hK K
  repeat (refine Lx.wpX_step (fun K hK => ?_); first | (refine Lx.opX_free (by rfl) (by rfl) (by rfl) ?_; go_big_quiet_op; refine hK _ _ ?_; clear hK K) | (refine Lx.opX_nil (by rfl) (by rfl) (by rfl) (by rfl) ?_; refine hK _ _ ?_; clear hK K; simp only [Act.put, List.setIfInBounds_toArray, List.set_cons_succ, List.set_cons_zero]) | (refine Lx.opX_skip (by rfl) ?_; refine hK _ _ ?_; clear hK K; simp only [Act.put, List.setIfInBounds_toArray, List.set_cons_succ, List.set_cons_zero]))
  refine Lx.wpX_nil ?_
  have K2 := Lib.hid (K1.out.trans (HF1.out.mono hsz1))
  clear f0 f1 f2 HLN1 HSS1 HA1 HD1
  have hsz2 := K2.out.size
  have HSb2 : Hid (∀ q, (q = xb ∨ q = yb) → q < w1f.heap.size) := Lib.hid (fun q hq => Nat.lt_of_lt_of_le (HSB.out q hq) hsz2)
  have k0 := (K2.out.block xb hxl).trans H2.out
  have f0 := cells_at k0 0 (.slice (some ⟨s0, 0, none⟩) 1 1) rfl; have f1 := cells_at k0 1 (.slice (some ⟨s1, 0, none⟩) 1 1) rfl; have f2 := cells_at k0 2 (.int .i64 1) rfl
  have HD2 := Lib.hid ((Below.refl w1f.heap.size w1f).drew)
  have HLN2 := Lib.hid (fun (u : World) (S : Nat) (hu : Below w1f.heap.size w1f u) (hS : SetAt u u.heap.size S 1 2 2 ex3 []) => slender_c 1 2 2 ex3 [] (by decide) ex3_tree S (some ⟨s0, 0, none⟩) 1 [2] (some ⟨s1, 0, none⟩) 1 [2] (by decide) (by decide) 1 2 (by decide) u hS ((HO1.out.below (K2.out.trans (hu.mono hsz2))).more (Nat.le_trans hsz2 hu.size)) ((HQ1.out.below (K2.out.trans (hu.mono hsz2))).more (Nat.le_trans hsz2 hu.size)))
  unfold LendOk at HLN2
  rw [ex3_2] at HLN2
  simp only [Option.getD_some, Option.isSome_some, List.length_cons, List.length_nil, Nat.zero_add, Nat.reduceAdd] at HLN2
  clear k0
  go_upto_region 5 with fail
  refine Lx.wp_region_Y 7 (fun w' => ∃ z, w' = Lx.kept (fun q => q = xb ∨ q = yb) w1f.drew z) [0, 2] (by kernel_rfl) (by kernel_rfl) (Lx.kept_of (Lx.Keeps.refl _ _)) ?_
  simp only [List.take_succ_cons, List.take_zero, List.drop_succ_cons, List.drop_zero]
  repeat (refine Lx.wpX_step (fun K hK => ?_); first | (refine Lx.opX_free (by rfl) (by rfl) (by rfl) ?_; go_big_quiet_op; refine hK _ _ ?_; clear hK K) | (refine Lx.opX_nil (by rfl) (by rfl) (by rfl) (by rfl) ?_; refine hK _ _ ?_; clear hK K; simp only [Act.put, List.setIfInBounds_toArray, List.set_cons_succ, List.set_cons_zero]) | (refine Lx.opX_skip (by rfl) ?_; refine hK _ _ ?_; clear hK K; simp only [Act.put, List.setIfInBounds_toArray, List.set_cons_succ, List.set_cons_zero]))
  refine Lx.wpX_step (fun K hK => ?_)
  refine Lx.opX_law (by rfl) (by rfl) ?_
  go_wp2_with (go_at_call 77; (with_reducible refine (three_c 2 (by decide) (by decide) _).mono ?_); rintro e wa2 ⟨S2, rfl, hS, hb5⟩; have hbk := HD2.out.trans (hb5.mono HD2.out.size); have HA2 := Lib.hid hbk; have HSS2 := Lib.hid hS; clear hb5 hbk hS)
  refine Lx.nq_mk (Lx.kept_of (fun y hy => HA2.out.block y (HSb2.out y hy))) (hK _ _ ?_)
  clear hK K
  repeat (refine Lx.wpX_step (fun K hK => ?_); first | (refine Lx.opX_free (by rfl) (by rfl) (by rfl) ?_; go_big_quiet_op; refine hK _ _ ?_; clear hK K) | (refine Lx.opX_nil (by rfl) (by rfl) (by rfl) (by rfl) ?_; refine hK _ _ ?_; clear hK K; simp only [Act.put, List.setIfInBounds_toArray, List.set_cons_succ, List.set_cons_zero]) | (refine Lx.opX_skip (by rfl) ?_; refine hK _ _ ?_; clear hK K; simp only [Act.put, List.setIfInBounds_toArray, List.set_cons_succ, List.set_cons_zero]))
  refine Lx.wpX_step (fun K hK => ?_)
  refine Lx.opX_law (by rfl) (by rfl) ?_
  go_wp2_with (go_at_call 33; (with_reducible refine (HLN2.out _ _ HA2.out HSS2.out).mono ?_); rintro e w2f ⟨rfl, hb5⟩; have hbk := HA2.out.trans (hb5.mono HA2.out.size); have HF2 := Lib.hid hbk; clear hb5 hbk)
  refine Lx.nq_mk (Lx.kept_of (fun y hy => HF2.out.block y (HSb2.out y hy))) (hK _ _ ?_)
  clear hK K
  repeat (refine Lx.wpX_step (fun K hK => ?_); first | (refine Lx.opX_free (by rfl) (by rfl) (by rfl) ?_; go_big_quiet_op; refine hK _ _ ?_; clear hK K) | (refine Lx.opX_nil (by rfl) (by rfl) (by rfl) (by rfl) ?_; refine hK _ _ ?_; clear hK K; simp only [Act.put, List.setIfInBounds_toArray, List.set_cons_succ, List.set_cons_zero]) | (refine Lx.opX_skip (by rfl) ?_; refine hK _ _ ?_; clear hK K; simp only [Act.put, List.setIfInBounds_toArray, List.set_cons_succ, List.set_cons_zero]))
  refine Lx.wpX_nil ?_
  have K3 := Lib.hid (K2.out.trans (HF2.out.mono hsz2))
  clear f0 f1 f2 HLN2 HSS2 HA2 HD2
  have hsz3 := K3.out.size
  have HSb3 : Hid (∀ q, (q = xb ∨ q = yb) → q < w2f.heap.size) := Lib.hid (fun q hq => Nat.lt_of_lt_of_le (HSB.out q hq) hsz3)
  have k0 := (K3.out.block yb hyl).trans H5.out
  have f0 := cells_at k0 0 (.slice (some ⟨s3, 0, none⟩) 1 1) rfl; have f1 := cells_at k0 1 (.slice (some ⟨s4, 0, none⟩) 2 2) rfl; have f2 := cells_at k0 2 (.int .i64 0) rfl
  have HD3 := Lib.hid ((Below.refl w2f.heap.size w2f).drew)
  have HLN3 := Lib.hid (fun (u : World) (S : Nat) (hu : Below w2f.heap.size w2f u) (hS : SetAt u u.heap.size S 1 2 2 ex3 []) => slender_c 1 2 2 ex3 [] (by decide) ex3_tree S (some ⟨s3, 0, none⟩) 1 [2] (some ⟨s4, 0, none⟩) 2 [2, 3] (by decide) (by decide) 0 2 (by decide) u hS ((HO2.out.below (K3.out.trans (hu.mono hsz3))).more (Nat.le_trans hsz3 hu.size)) ((HQ2.out.below (K3.out.trans (hu.mono hsz3))).more (Nat.le_trans hsz3 hu.size)))
  unfold LendOk at HLN3
  rw [ex3_3] at HLN3
  simp only [Option.getD_none, Option.isSome_none, List.length_cons, List.length_nil, Nat.zero_add, Nat.reduceAdd] at HLN3
  clear k0
  go_upto_region 6 with fail
  refine Lx.wp_region_Y 7 (fun w' => ∃ z, w' = Lx.kept (fun q => q = xb ∨ q = yb) w2f.drew z) [0, 2] (by kernel_rfl) (by kernel_rfl) (Lx.kept_of (Lx.Keeps.refl _ _)) ?_
  simp only [List.take_succ_cons, List.take_zero, List.drop_succ_cons, List.drop_zero]
  repeat (refine Lx.wpX_step (fun K hK => ?_); first | (refine Lx.opX_free (by rfl) (by rfl) (by rfl) ?_; go_big_quiet_op; refine hK _ _ ?_; clear hK K) | (refine Lx.opX_nil (by rfl) (by rfl) (by rfl) (by rfl) ?_; refine hK _ _ ?_; clear hK K; simp only [Act.put, List.setIfInBounds_toArray, List.set_cons_succ, List.set_cons_zero]) | (refine Lx.opX_skip (by rfl) ?_; refine hK _ _ ?_; clear hK K; simp only [Act.put, List.setIfInBounds_toArray, List.set_cons_succ, List.set_cons_zero]))
  refine Lx.wpX_step (fun K hK => ?_)
  refine Lx.opX_law (by rfl) (by rfl) ?_
  go_wp2_with (go_at_call 77; (with_reducible refine (three_c 2 (by decide) (by decide) _).mono ?_); rintro e wa3 ⟨S3, rfl, hS, hb5⟩; have hbk := HD3.out.trans (hb5.mono HD3.out.size); have HA3 := Lib.hid hbk; have HSS3 := Lib.hid hS; clear hb5 hbk hS)
  refine Lx.nq_mk (Lx.kept_of (fun y hy => HA3.out.block y (HSb3.out y hy))) (hK _ _ ?_)
  clear hK K
  repeat (refine Lx.wpX_step (fun K hK => ?_); first | (refine Lx.opX_free (by rfl) (by rfl) (by rfl) ?_; go_big_quiet_op; refine hK _ _ ?_; clear hK K) | (refine Lx.opX_nil (by rfl) (by rfl) (by rfl) (by rfl) ?_; refine hK _ _ ?_; clear hK K; simp only [Act.put, List.setIfInBounds_toArray, List.set_cons_succ, List.set_cons_zero]) | (refine Lx.opX_skip (by rfl) ?_; refine hK _ _ ?_; clear hK K; simp only [Act.put, List.setIfInBounds_toArray, List.set_cons_succ, List.set_cons_zero]))
  refine Lx.wpX_step (fun K hK => ?_)
  refine Lx.opX_law (by rfl) (by rfl) ?_
  go_wp2_with (go_at_call 33; (with_reducible refine (HLN3.out _ _ HA3.out HSS3.out).mono ?_); rintro e w3f ⟨rfl, hb5⟩; have hbk := HA3.out.trans (hb5.mono HA3.out.size); have HF3 := Lib.hid hbk; clear hb5 hbk)
  refine Lx.nq_mk (Lx.kept_of (fun y hy => HF3.out.block y (HSb3.out y hy))) (hK _ _ ?_)
  clear hK K
  repeat (refine Lx.wpX_step (fun K hK => ?_); first | (refine Lx.opX_free (by rfl) (by rfl) (by rfl) ?_; go_big_quiet_op; refine hK _ _ ?_; clear hK K) | (refine Lx.opX_nil (by rfl) (by rfl) (by rfl) (by rfl) ?_; refine hK _ _ ?_; clear hK K; simp only [Act.put, List.setIfInBounds_toArray, List.set_cons_succ, List.set_cons_zero]) | (refine Lx.opX_skip (by rfl) ?_; refine hK _ _ ?_; clear hK K; simp only [Act.put, List.setIfInBounds_toArray, List.set_cons_succ, List.set_cons_zero]))
  refine Lx.wpX_nil ?_
  have K4 := Lib.hid (K3.out.trans (HF3.out.mono hsz3))
  clear f0 f1 f2 HLN3 HSS3 HA3 HD3
  go_wp2_with fail
  go_ret
  exact ⟨rfl, HB.out.trans (K4.out.mono hUU)⟩
end Go.Proofs.YtpchhfhmopmagaaGreat.Le
