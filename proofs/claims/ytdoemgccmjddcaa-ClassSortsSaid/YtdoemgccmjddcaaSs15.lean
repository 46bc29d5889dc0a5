/- ref.Sorted: insertion behind all that are not greater. -/
import Derived.Test.YtdoemgccmjddcaaSs14
import Derived.Maps.AppendAt
import Derived.Deep.AppendLies
import Derived.BigQuiet
import Derived.Deep.DeepCutAuto
import Derived.Deep.CutBlock
import Derived.Handy
import Derived.Laws.AppendOwnNone
namespace Go.Proofs.Ytdoemgccmjddcaa.So
open Go.RowKit Go.Shelf Cl Wd

/-- 'append(s, x...)' on a slice of the call's own, by whatever lies in x -/
theorem wpList_cat {P : Program} {ops : Array Oper} {rest : List Oper} {o : Oper} {a : Act} {Q : Exit → Act → World → Prop} (hgd : o.guard = none) (s x : Operand) (t : TypeId)
    (ho : o.op = .call { callee := .builtin .append, args := #[s, x], argTypes := #[t, t] })
    (base : Nat) (e : TypeId) (i : TypeInfo) (z : Value) (size bytes : Nat) (ht : P.underlying t = some (.slice e)) (hi : P.info? e = some i) (hz : i.zero = some z)
    (hsize : i.size = size) (hby : i.bytes = bytes) (hzs : z.cells.size = size) (hsz : 0 < size) (hb8 : bytes ≤ 4096) (w : World)
    (v : Value) (n : Nat) (xs : List Value) (hown : w.ownsRow base e size v n xs) (hs : a.eval s = v) (ad : Addr) (m c : Nat) (news : List Value)
    (hx : a.eval x = .slice (some ad) m c) (hnl : news.length = m * size) (hc : ∀ j u, news[j]? = some u → w.cell? (ad.add j) = some u) (h1 : ∀ u ∈ news, u.oneCell' = true) (hn : n < 4194304) (hm : m < 4194304) (hbase : base ≤ w.heap.size) (N : Nat) (ys : List Value) (hN : n + m = N) (hys : xs ++ news = ys)
    (h : ∀ A cap w1, w1.ownsRow base e size (.slice A N cap) N ys → Below base w w1 → wpList P ops Q rest (a.put o.dst (.slice A N cap)) w1) : wpList P ops Q (o :: rest) a w := by
  subst hN hys
  refine wpList_append_own _ hgd s x t ho base e i z size bytes ht hi hz hsize hby hzs hsz v n xs hs hown ad m c news hx hnl hc h1 (by unfold maxLen; omega) ?_ hbase ?_
  · have : (n + m) * bytes ≤ 8388608 * 4096 := Nat.mul_le_mul (by omega) hb8
    omega
  · intro v' w1 hown' hgrow _
    obtain ⟨A, cap, rfl⟩ := own_slice hsz hown'
    exact h _ _ w1 hown' ((Below.refl base w).grown hgrow hbase (fun k hk => (hown.lt k hk).1))
/-- what is appended: cells that lie somewhere, or nothing (nil) -/
def News (w : World) (size : Nat) (X : Value) (m : Nat) (news : List Value) : Prop :=
  (∃ ad c, X = .slice (some ad) m c ∧ news.length = m * size ∧ ∀ j u, news[j]? = some u → w.cell? (ad.add j) = some u) ∨ (X = .slice none 0 0 ∧ m = 0 ∧ news = [])
theorem News.alloc {w : World} {size : Nat} {X : Value} {m : Nat} {news : List Value} (o : Obj) (h : News w size X m news) : News (w.alloc o) size X m news := by
  rcases h with ⟨ad, c, hX, hl, hc⟩ | h
  · exact .inl ⟨ad, c, hX, hl, fun j u hu => Lib.cell?_alloc_some _ (hc j u hu)⟩
  · exact .inr h
theorem News.below {w w' : World} {size : Nat} {X : Value} {m : Nat} {news : List Value} (h : News w size X m news) (hb : Below w.heap.size w w') : News w' size X m news := by
  rcases h with ⟨ad, c, hX, hl, hc⟩ | h
  · exact .inl ⟨ad, c, hX, hl, fun j u hu => (hb.cell (World.block_lt_of_cell? w _ (hc j u hu))).trans (hc j u hu)⟩
  · exact .inr h
theorem wpList_cats {P : Program} {ops : Array Oper} {rest : List Oper} {o : Oper} {a : Act} {Q : Exit → Act → World → Prop} (hgd : o.guard = none) (s x : Operand) (t : TypeId)
    (ho : o.op = .call { callee := .builtin .append, args := #[s, x], argTypes := #[t, t] })
    (base : Nat) (e : TypeId) (i : TypeInfo) (z : Value) (size bytes : Nat) (ht : P.underlying t = some (.slice e)) (hi : P.info? e = some i) (hz : i.zero = some z)
    (hsize : i.size = size) (hby : i.bytes = bytes) (hzs : z.cells.size = size) (hsz : 0 < size) (hb8 : bytes ≤ 4096) (w : World)
    (v : Value) (n : Nat) (xs : List Value) (hown : w.ownsRow base e size v n xs) (hs : a.eval s = v) (X : Value) (m : Nat) (news : List Value)
    (hx : a.eval x = X) (hN : News w size X m news) (h1 : ∀ u ∈ news, u.oneCell' = true) (hn : n < 4194304) (hm : m < 4194304) (hbase : base ≤ w.heap.size) (N : Nat) (ys : List Value) (hNm : n + m = N) (hys : xs ++ news = ys)
    (h : ∀ A cap w1, w1.ownsRow base e size (.slice A N cap) N ys → Below base w w1 → wpList P ops Q rest (a.put o.dst (.slice A N cap)) w1) : wpList P ops Q (o :: rest) a w := by
  rcases hN with ⟨ad, c, hX, hl, hc⟩ | ⟨hX, hm0, hn0⟩
  · exact wpList_cat hgd s x t ho base e i z size bytes ht hi hz hsize hby hzs hsz hb8 w v n xs hown hs ad m c news (hx.trans hX) hl hc h1 hn hm hbase N ys hNm hys h
  · subst hm0 hn0 hNm hys
    refine wpList_append_own_none hgd s x t ho base e i size ht hi v n xs hs hown (hx.trans hX) ?_
    obtain ⟨A, cap, rfl⟩ := own_slice hsz hown
    exact h A cap w (by simpa using hown) (Below.refl base w)
theorem ins1_cut {o : List Cls} {x : Cls} {k : Nat} (hk : k ≤ o.length) (h1 : ∀ (j : Nat) y, j < k → o[j]? = some y → y.id ≤ x.id) (h2 : ∀ y, o[k]? = some y → x.id < y.id) : ins1 o x = o.take k ++ x :: o.drop k := by
  induction o generalizing k with
  | nil => simp [ins1]
  | cons a o ih =>
    cases k with
    | zero =>
      have := h2 a rfl
      unfold ins1
      rw [List.takeWhile_cons, List.dropWhile_cons, if_neg (by simp; omega), if_neg (by simp; omega)]
      simp
    | succ k =>
      have h0 := h1 0 a (by omega) rfl
      have := ih (k := k) (by simpa using hk) (fun j y hj hy => h1 (j + 1) y (by omega) (by simpa using hy)) (fun y hy => h2 y (by simpa using hy))
      unfold ins1 at this ⊢
      rw [List.takeWhile_cons, List.dropWhile_cons, if_pos (by simpa using h0), if_pos (by simpa using h0), List.take_succ_cons, List.drop_succ_cons, List.cons_append, this, List.cons_append]
theorem sortC_succ {zs : List Cls} {n : Nat} {x : Cls} (hx : zs[n]? = some x) : sortC (zs.take (n + 1)) = ins1 (sortC (zs.take n)) x := by
  unfold sortC
  rw [List.take_add_one, hx, List.foldl_append]; rfl
theorem owns_ids {w : World} {base n c : Nat} {B : Option Addr} {o : List Cls} {e : TypeId} (h : w.ownsRow base e 11 (.slice B n c) n (o.flatMap Cls.cells)) (hol : o.length = n) :
    0 < n → ∃ g, B = some ⟨g, 0, none⟩ ∧ g < w.heap.size ∧ ∀ (j : Nat) (y : Cls), o[j]? = some y → ∀ (i : Nat) (v : Value), y.cells[i]? = some v → w.cell? ⟨g, j * 11 + i, none⟩ = some v := fun hn => by
  obtain ⟨g, cap, hv, hb, hg⟩ := h.form hn
  obtain ⟨rfl, _, rfl⟩ := Value.slice.inj hv
  refine ⟨g, rfl, hg, fun j y hy i v hv => ?_⟩
  have hi : i < 11 := (List.getElem?_eq_some_iff.1 hv).1
  have hj : j < o.length := (List.getElem?_eq_some_iff.1 hy).1
  have hcell := h.cells (g := g) rfl (j * 11 + i) v (by
    have hlt : j * 11 + i < o.length * 11 := by omega
    rw [flat_get o _ hlt]
    have e1 : (j * 11 + i) / 11 = j := by omega
    have e2 : (j * 11 + i) % 11 = i := by omega
    rw [e1, e2]
    have e3 : o.toArray[j]! = y := by
      rw [getElem!_pos o.toArray j (by simpa using hj)]
      simpa using (List.getElem?_eq_some_iff.1 hy).2
    rw [e3, getElem!_pos y.cells i (show i < y.cells.length from hi), (List.getElem?_eq_some_iff.1 hv).2])
  rwa [add_zero_at] at hcell

theorem owns_mono {w : World} {base base' size n : Nat} {e : TypeId} {v : Value} {xs : List Value} (h : w.ownsRow base e size v n xs) (hb : base' ≤ base) : w.ownsRow base' e size v n xs := by
  refine ⟨h.1, ?_⟩
  rcases h.2 with h0 | ⟨g, c, cur, e1, e2, r⟩
  · exact .inl h0
  · exact .inr ⟨g, c, cur, e1, Nat.le_trans hb e2, r⟩
theorem flat_len (l : List Cls) : (l.flatMap Cls.cells).length = l.length * 11 := by
  induction l with
  | nil => rfl
  | cons x l ih => rw [List.flatMap_cons, List.length_append, ih, cells_len, List.length_cons]; omega
theorem flat_one (l : List Cls) : ∀ u ∈ l.flatMap Cls.cells, u.oneCell' = true := fun u hu => by
  obtain ⟨x, _, hx⟩ := List.mem_flatMap.1 hu
  exact cells_one x u hx
/-- the cells of a part of a list lie where the list lies -/
theorem flat_part {w : World} {g s : Nat} {o p : List Cls} (hp : ∀ (j : Nat) y, p[j]? = some y → o[s + j]? = some y) (h : ∀ (j : Nat) (y : Cls), o[j]? = some y → ∀ (i : Nat) (v : Value), y.cells[i]? = some v → w.cell? ⟨g, j * 11 + i, none⟩ = some v) :
    ∀ j u, (p.flatMap Cls.cells)[j]? = some u → w.cell? ((⟨g, s * 11, none⟩ : Addr).add j) = some u := by
  intro j u hu
  have hj : j < p.length * 11 := by rw [← flat_len]; exact (List.getElem?_eq_some_iff.1 hu).1
  rw [flat_get p j hj] at hu
  have hjp : j / 11 < p.length := by omega
  have e3 : p.toArray[j / 11]! = p[j / 11] := by
    rw [getElem!_pos p.toArray (j / 11) (by simpa using hjp)]; simp
  have hyo := hp (j / 11) _ (List.getElem?_eq_getElem hjp)
  rw [e3] at hu
  have hi : j % 11 < 11 := by omega
  have hl : j % 11 < (p[j / 11].cells).length := by rw [cells_len]; exact hi
  rw [getElem!_pos (p[j / 11].cells) (j % 11) hl] at hu
  have hc := h _ _ hyo (j % 11) u (by rw [List.getElem?_eq_getElem hl]; exact hu)
  have e : (s + j / 11) * 11 + j % 11 = s * 11 + j := by omega
  rw [e] at hc
  rw [Addr.add_lit]
  exact hc

set_option maxRecDepth 20000 in
set_option maxHeartbeats 4000000 in
theorem refsorted_c (A : Option Addr) (len cap : Nat) (zs : List Cls) (hlen : zs.length ≤ 1048576) (w : World) (hI : Holds w.heap.size w (.slice A len cap) zs) :
    Calls Try.prog 49 #[.slice A len cap] w fun e w' => ∃ v, e = .returned v ∧ w'.ownsRow w.heap.size 64 11 v zs.length ((sortC zs).flatMap Cls.cells) ∧ Below w.heap.size w w' := by
  obtain ⟨rfl, hcs⟩ : len = zs.length ∧ (0 < zs.length → ∃ b off, A = some ⟨b, off, none⟩ ∧ b < w.heap.size ∧ ∀ (j : Nat) (x : Cls), zs[j]? = some x → ∀ (i : Nat) (v : Value), x.cells[i]? = some v → w.cell? ⟨b, off + j * 11 + i, none⟩ = some v) := by
    rcases hI with ⟨e, rfl⟩ | ⟨b, off, c, e, hb, hc⟩
    · cases e; exact ⟨rfl, fun h => absurd h (by simp)⟩
    · obtain ⟨rfl, rfl, rfl⟩ := Value.slice.inj e
      exact ⟨rfl, fun _ => ⟨b, off, rfl, hb, hc⟩⟩
  have HCS := Lib.hid hcs
  clear hcs hI
  go_enter Try.func49, Try.ntmps49
  go_wp2
  go_loopg [3, 4, 5, 6] zs.length (fun kx s3 s4 s5 s6 wr => ∃ (n : Nat) (B : Option Addr) (c : Nat), s3 = .slice B n c ∧ s4 = .int .i64 n ∧ n ≤ zs.length ∧ zs.length - n ≤ kx ∧ wr.ownsRow w.heap.size 64 11 (.slice B n c) n ((sortC (zs.take n)).flatMap Cls.cells) ∧ Hid (Below w.heap.size w wr))
  case atStart => exact ⟨0, none, 0, rfl, rfl, by omega, by omega, World.ownsRow_nil .., Lib.hid (Below.refl _ w)⟩
  case round =>
    obtain ⟨n, B, c, rfl, rfl, hn, hkx, hown, HW⟩ := hrel
    by_cases hlt : n < zs.length
    · have hltz : (n : Int) < (zs.length : Int) := by omega
      obtain ⟨x, hx⟩ : ∃ x, zs[n]? = some x := ⟨zs[n], List.getElem?_eq_getElem hlt⟩
      obtain ⟨b, off, rfl, hb, hc⟩ := HCS.out (by omega)
      have hcx : ∀ (q : Nat) (i : Nat) (v : Value), x.cells[i]? = some v → (wr.drewN q).cell? ⟨b, off + n * 11 + i, none⟩ = some v := fun q i v hv => (HW.out.cell (p := ⟨b, off + n * 11 + i, none⟩) hb).trans (hc n x hx i v hv)
      obtain ⟨o, ho⟩ : ∃ o, o = sortC (zs.take n) := ⟨_, rfl⟩
      have hol : o.length = n := by rw [ho, sortC_len, List.length_take]; omega
      rw [← ho] at hown
      have HO := Lib.hid ho
      have hoc : 0 < n → ∃ g, B = some ⟨g, 0, none⟩ ∧ g < wr.heap.size ∧ ∀ (q j : Nat) (y : Cls), o[j]? = some y → (wr.drewN q).cell? ⟨g, j * 11, none⟩ = some (.int .i64 y.id) := fun h0 => by
        obtain ⟨g, h1, h2, h3⟩ := owns_ids hown hol h0
        exact ⟨g, h1, h2, fun q j y hy => h3 j y hy 0 _ rfl⟩
      have HOC := Lib.hid hoc
      have HX := Lib.hid hx
      have HCX := Lib.hid hcx
      have HB := Lib.hid hb
      clear ho hoc hx hcx hc hb
      go_upto_block 2 with fail
      go_cut [5] (fun s5 wx => ∃ k q : Nat, s5 = .int .i64 k ∧ k ≤ n ∧ wx = wr.drewN q ∧ Hid (∀ j y, j < k → o[j]? = some y → y.id ≤ x.id) ∧ Hid (∀ y, o[k]? = some y → x.id < y.id))
      case first =>
        go_wp2_with fail
        go_loopg [5] n (fun kx s5 wi => ∃ (k q : Nat), s5 = .int .i64 k ∧ k ≤ n ∧ n - k ≤ kx ∧ wi = wr.drewN q ∧ Hid (∀ j y, j < k → o[j]? = some y → y.id ≤ x.id))
        case atStart => exact ⟨0, 0, rfl, by omega, by omega, rfl, Lib.hid (fun j y h => absurd h (by omega))⟩
        case round =>
          obtain ⟨k, q, rfl, hk, hkx2, rfl, HN⟩ := hrel
          have c0 : wr.cell? ⟨b, off + n * 11, none⟩ = some (.int .i64 x.id) := HCX.out 0 0 _ rfl
          by_cases hkn : k < n
          · have hz1 : (k : Int) < (n : Int) := by omega
            obtain ⟨y, hy⟩ : ∃ y, o[k]? = some y := ⟨o[k], List.getElem?_eq_getElem (by omega)⟩
            obtain ⟨g, rfl, hg, hyc⟩ := HOC.out (by omega)
            have c1 : wr.cell? ⟨g, k * 11, none⟩ = some (.int .i64 y.id) := hyc 0 k y hy
            have HY := Lib.hid hy
            clear hyc hy
            by_cases hle : y.id ≤ x.id
            · have hled : decide (y.id ≤ x.id) = true := decide_eq_true hle
              have HLE := Lib.hid hle
              go_wp2_with fail
              go_quiet (fail)
              go_wp2
              go_roundg (n - (k + 1))
              case measure => omega
              case rel => exact ⟨k + 1, _, by go_num, by omega, by omega, by first | rfl | exact (World.drewN_drewN _ _ _), Lib.hid (fun j z hj hz => by
                by_cases e : j = k
                · subst e; rw [HY.out] at hz; cases hz; exact HLE.out
                · exact HN.out j z (by omega) hz)⟩
            · have hled : decide (y.id ≤ x.id) = false := decide_eq_false hle
              have HLE : Hid (x.id < y.id) := (by omega : x.id < y.id)
              go_wp2_with fail
              go_quiet (fail)
              go_wp2_with fail
              go_meet
              case rel => exact ⟨k, _, rfl, hk, by first | rfl | exact (World.drewN_drewN _ _ _), HN, Lib.hid (fun z hz => by rw [HY.out] at hz; cases hz; exact HLE.out)⟩
          · have hz1 : ¬ (k : Int) < (n : Int) := by omega
            have hz2 : decide ((k : Int) < (n : Int)) = false := decide_eq_false hz1
            go_wp2_with fail
            go_quiet (fail)
            go_wp2_with fail
            go_meet
            case rel => exact ⟨k, _, rfl, hk, by first | rfl | exact (World.drewN_drewN _ _ _), HN, Lib.hid (fun z hz => by have := (List.getElem?_eq_some_iff.1 hz).1; omega)⟩
      case rest =>
        obtain ⟨k, q, rfl, hk, rfl, HN, HG⟩ := hcut
        have hown2 : (wr.drewN q).ownsRow w.heap.size 64 11 (.slice B n c) n (o.flatMap Cls.cells) := hown
        have hW2 : Below w.heap.size w (wr.drewN q) := below_drewN HW.out q
        have hcx2 := HCX.out q
        have hol2 : o.length = n := hol
        have hnc : n ≤ c := by
          rcases hown.2 with ⟨e, h0⟩ | ⟨_, _, _, e, _, _, h, _⟩
          · omega
          · have := (Value.slice.inj e).2.2; omega
        clear hown HCX HOC HCS HW
        generalize wr.drewN q = W at *
        have HOWN := Lib.hid hown2
        have HW2 := Lib.hid hW2
        have HCX := Lib.hid hcx2
        clear hown2 hW2 hcx2
        have hkz : (k : Int) ≤ (c : Int) := by omega
        have hkz2 : ¬ (c : Int) < (k : Int) := by omega
        have hnz : (k : Int) ≤ (n : Int) := by omega
        have hsz : w.heap.size ≤ W.heap.size := HW2.out.size
        have hB : (B = none ∧ c = 0 ∧ News W 11 (.slice none k 0) k ((o.take k).flatMap Cls.cells) ∧ News W 11 (.slice none (n - k) 0) (n - k) ((o.drop k).flatMap Cls.cells)) ∨
            ∃ g, B = some ⟨g, 0, none⟩ ∧ News W 11 (.slice (some ⟨g, 0, none⟩) k c) k ((o.take k).flatMap Cls.cells) ∧ News W 11 (.slice (some (if c = k then ⟨g, 0, none⟩ else ⟨g, k * 11, none⟩)) (n - k) (c - k)) (n - k) ((o.drop k).flatMap Cls.cells) := by
          rcases HOWN.out.2 with ⟨e, h0⟩ | ⟨g, _, _, e, _, _, h, _⟩
          · obtain ⟨rfl, rfl, rfl⟩ := Value.slice.inj e
            have ho0 : o = [] := List.eq_nil_of_length_eq_zero hol2
            subst ho0
            obtain rfl : k = 0 := by omega
            exact .inl ⟨rfl, rfl, .inr ⟨rfl, rfl, rfl⟩, .inr ⟨rfl, rfl, rfl⟩⟩
          · obtain ⟨rfl, _, _⟩ := Value.slice.inj e
            refine .inr ⟨g, rfl, .inl ⟨_, _, rfl, ?_, ?_⟩, .inl ⟨_, _, rfl, ?_, ?_⟩⟩
            · rw [flat_len, List.length_take]; congr 1; omega
            · intro j u hu
              have hn0 : 0 < n := by
                have := (List.getElem?_eq_some_iff.1 hu).1
                rw [flat_len, List.length_take] at this; omega
              obtain ⟨g', e', _, hcs⟩ := owns_ids HOWN.out hol2 hn0
              cases e'
              have := flat_part (s := 0) (p := o.take k) (fun j y hy => by rw [Nat.zero_add]; rw [List.getElem?_take] at hy; split at hy; exact hy; cases hy) hcs j u hu
              simpa using this
            · rw [flat_len, List.length_drop]; congr 1; omega
            · intro j u hu
              have hkn : k < n := by
                have := (List.getElem?_eq_some_iff.1 hu).1
                rw [flat_len, List.length_drop] at this; omega
              obtain ⟨g', e', _, hcs⟩ := owns_ids HOWN.out hol2 (by omega)
              cases e'
              rw [if_neg (by omega)]
              exact flat_part (s := k) (p := o.drop k) (fun j y hy => by rw [List.getElem?_drop] at hy; exact hy) hcs j u hu
        have hfl1 := flat_one (o.take k)
        have hfl2 := flat_one (o.drop k)
        obtain ⟨i0, hi, hz0, hz1, hz2⟩ := info_parts class_info
        have hn63 : n < 4194304 := by omega
        have hk63 : k < 4194304 := by omega
        have hins : (o.take k).flatMap Cls.cells ++ x.cells ++ (o.drop k).flatMap Cls.cells = (sortC (zs.take (n + 1))).flatMap Cls.cells := by
          have e1 := sortC_succ HX.out
          rw [← HO.out] at e1
          rw [e1, ins1_cut (k := k) (by omega) (HN.out) (HG.out)]
          simp
        have hins := Lib.hid hins
        clear HOWN
        rcases hB with ⟨rfl, rfl, hN1, hN2⟩ | ⟨g, rfl, hN1, hN2⟩
        · have hN1 := Lib.hid hN1
          have hN2 := Lib.hid hN2
          generalize (o.take k).flatMap Cls.cells = L1 at *
          generalize (o.drop k).flatMap Cls.cells = L2 at *
          go_upto_region 9 with ((at_builtin; go_must (refine wpList_cats (by rfl) _ _ 22 (by rfl) W.heap.size 64 i0 _ 11 80 Try.underlying22 hi hz0 hz1 hz2 rfl (by decide) (by decide) _ _ _ [] (World.ownsRow_made W #[] 0 (Nat.le_refl _) (Nat.zero_le _) rfl) (by rfl) _ k L1 (by rfl) (hN1.out.alloc _) hfl1 (by decide) hk63 (by simp) k L1 (Nat.zero_add k) rfl ?_); intro A1 c1 w1 hown1 hb1))
          have hB1 : Below W.heap.size W w1 := ((Below.refl _ W).alloc (Nat.le_refl _) _).trans hb1
          have hbW : b < W.heap.size := Nat.lt_of_lt_of_le HB.out hsz
          have cx : ∀ (i : Nat) (v : Value), x.cells[i]? = some v → w1.cell? ⟨b, off + n * 11 + i, none⟩ = some v := fun i v hv => (hB1.cell (p := ⟨b, off + n * 11 + i, none⟩) hbW).trans (HCX.out i v hv)
          have c0 : w1.cell? ⟨b, off + n * 11, none⟩ = some (.int .i64 x.id) := cx 0 _ rfl
          have c1' : w1.cell? ⟨b, off + n * 11 + 1, none⟩ = some (.int .i64 x.parent) := cx 1 _ rfl
          have c2' : w1.cell? ⟨b, off + n * 11 + 2, none⟩ = some (.float .f64 x.share) := cx 2 _ rfl
          have c3' : w1.cell? ⟨b, off + n * 11 + 3, none⟩ = some (.int .i64 x.prio) := cx 3 _ rfl
          have c4' : w1.cell? ⟨b, off + n * 11 + 4, none⟩ = some (.int .i64 x.quantum) := cx 4 _ rfl
          have c5' : w1.cell? ⟨b, off + n * 11 + 5, none⟩ = some (.int .i64 x.limit) := cx 5 _ rfl
          have c6' : w1.cell? ⟨b, off + n * 11 + 6, none⟩ = some (.int .i64 x.weight) := cx 6 _ rfl
          have c7' : w1.cell? ⟨b, off + n * 11 + 7, none⟩ = some (.int .i64 x.minIdle) := cx 7 _ rfl
          have c8' : w1.cell? ⟨b, off + n * 11 + 8, none⟩ = some (.int .i64 x.maxIdle) := cx 8 _ rfl
          have c9' : w1.cell? ⟨b, off + n * 11 + 9, none⟩ = some (.bool x.bounded) := cx 9 _ rfl
          have c10' : w1.cell? ⟨b, off + n * 11 + 10, none⟩ = some (.bool x.isolated) := cx 10 _ rfl
          have HB1 := Lib.hid hB1
          have HO1 := Lib.hid hown1
          have hs1 : W.heap.size ≤ w1.heap.size := hB1.size
          clear cx hB1 hb1 hown1
          go_upto_region 10 with ((at_builtin; go_must (refine wpList_push (by rfl) _ _ 22 (by rfl) W.heap.size 64 i0 _ 11 80 Try.underlying22 hi hz0 hz1 hz2 rfl (by decide) (by decide) w1 _ rfl (by simp [Value.oneCell']) _ _ _ HO1.out (by rfl) (by rfl) (by omega) hs1 ?_); intro A2 c2 w2 hown2 hb2))
          clear c0 c1' c2' c3' c4' c5' c6' c7' c8' c9' c10'
          have hB2 : Below W.heap.size W w2 := HB1.out.trans hb2
          have hs2 : W.heap.size ≤ w2.heap.size := hB2.size
          have HN2 := Lib.hid (hN2.out.below hB2)
          have HO2 := Lib.hid hown2
          have HB2 := Lib.hid hB2
          clear hown2 hb2 hB2 hN2
          go_wp2_with ((at_builtin; go_must (refine wpList_cats (by rfl) _ _ 22 (by rfl) W.heap.size 64 i0 _ 11 80 Try.underlying22 hi hz0 hz1 hz2 rfl (by decide) (by decide) w2 _ (k + 1) _ HO2.out (by rfl) _ (n - k) L2 (by rfl) HN2.out hfl2 (by omega) (by omega) hs2 (n + 1) _ (by omega) hins.out ?_); intro A3 c3 w3 hown3 hb3))
          go_roundg (zs.length - (n + 1))
          case measure => omega
          case rel => exact ⟨n + 1, A3, c3, rfl, by go_num, by omega, by omega, owns_mono hown3 hsz, Lib.hid (HW2.out.trans ((HB2.out.trans hb3).mono hsz))⟩
        · have hN1 := Lib.hid hN1
          have hN2 := Lib.hid hN2
          generalize (o.take k).flatMap Cls.cells = L1 at *
          generalize (o.drop k).flatMap Cls.cells = L2 at *
          go_upto_region 9 with ((at_builtin; go_must (refine wpList_cats (by rfl) _ _ 22 (by rfl) W.heap.size 64 i0 _ 11 80 Try.underlying22 hi hz0 hz1 hz2 rfl (by decide) (by decide) _ _ _ [] (World.ownsRow_made W #[] 0 (Nat.le_refl _) (Nat.zero_le _) rfl) (by rfl) _ k L1 (by rfl) (hN1.out.alloc _) hfl1 (by decide) hk63 (by simp) k L1 (Nat.zero_add k) rfl ?_); intro A1 c1 w1 hown1 hb1))
          have hB1 : Below W.heap.size W w1 := ((Below.refl _ W).alloc (Nat.le_refl _) _).trans hb1
          have hbW : b < W.heap.size := Nat.lt_of_lt_of_le HB.out hsz
          have cx : ∀ (i : Nat) (v : Value), x.cells[i]? = some v → w1.cell? ⟨b, off + n * 11 + i, none⟩ = some v := fun i v hv => (hB1.cell (p := ⟨b, off + n * 11 + i, none⟩) hbW).trans (HCX.out i v hv)
          have c0 : w1.cell? ⟨b, off + n * 11, none⟩ = some (.int .i64 x.id) := cx 0 _ rfl
          have c1' : w1.cell? ⟨b, off + n * 11 + 1, none⟩ = some (.int .i64 x.parent) := cx 1 _ rfl
          have c2' : w1.cell? ⟨b, off + n * 11 + 2, none⟩ = some (.float .f64 x.share) := cx 2 _ rfl
          have c3' : w1.cell? ⟨b, off + n * 11 + 3, none⟩ = some (.int .i64 x.prio) := cx 3 _ rfl
          have c4' : w1.cell? ⟨b, off + n * 11 + 4, none⟩ = some (.int .i64 x.quantum) := cx 4 _ rfl
          have c5' : w1.cell? ⟨b, off + n * 11 + 5, none⟩ = some (.int .i64 x.limit) := cx 5 _ rfl
          have c6' : w1.cell? ⟨b, off + n * 11 + 6, none⟩ = some (.int .i64 x.weight) := cx 6 _ rfl
          have c7' : w1.cell? ⟨b, off + n * 11 + 7, none⟩ = some (.int .i64 x.minIdle) := cx 7 _ rfl
          have c8' : w1.cell? ⟨b, off + n * 11 + 8, none⟩ = some (.int .i64 x.maxIdle) := cx 8 _ rfl
          have c9' : w1.cell? ⟨b, off + n * 11 + 9, none⟩ = some (.bool x.bounded) := cx 9 _ rfl
          have c10' : w1.cell? ⟨b, off + n * 11 + 10, none⟩ = some (.bool x.isolated) := cx 10 _ rfl
          have HB1 := Lib.hid hB1
          have HO1 := Lib.hid hown1
          have hs1 : W.heap.size ≤ w1.heap.size := hB1.size
          clear cx hB1 hb1 hown1
          go_upto_region 10 with ((at_builtin; go_must (refine wpList_push (by rfl) _ _ 22 (by rfl) W.heap.size 64 i0 _ 11 80 Try.underlying22 hi hz0 hz1 hz2 rfl (by decide) (by decide) w1 _ rfl (by simp [Value.oneCell']) _ _ _ HO1.out (by rfl) (by rfl) (by omega) hs1 ?_); intro A2 c2 w2 hown2 hb2))
          clear c0 c1' c2' c3' c4' c5' c6' c7' c8' c9' c10'
          have hB2 : Below W.heap.size W w2 := HB1.out.trans hb2
          have hs2 : W.heap.size ≤ w2.heap.size := hB2.size
          have HN2 := Lib.hid (hN2.out.below hB2)
          have HO2 := Lib.hid hown2
          have HB2 := Lib.hid hB2
          clear hown2 hb2 hB2 hN2
          by_cases hck : c = k
          · rw [if_pos hck, show c - k = 0 by omega] at HN2
            have hck2 : ¬ c < k := by omega
            go_wp2_with ((at_builtin; go_must (refine wpList_cats (by rfl) _ _ 22 (by rfl) W.heap.size 64 i0 _ 11 80 Try.underlying22 hi hz0 hz1 hz2 rfl (by decide) (by decide) w2 _ (k + 1) _ HO2.out (by rfl) _ (n - k) L2 (by rfl) HN2.out hfl2 (by omega) (by omega) hs2 (n + 1) _ (by omega) hins.out ?_); intro A3 c3 w3 hown3 hb3))
            go_roundg (zs.length - (n + 1))
            case measure => omega
            case rel => exact ⟨n + 1, A3, c3, rfl, by go_num, by omega, by omega, owns_mono hown3 hsz, Lib.hid (HW2.out.trans ((HB2.out.trans hb3).mono hsz))⟩
          · rw [if_neg hck] at HN2
            go_wp2_with ((at_builtin; go_must (refine wpList_cats (by rfl) _ _ 22 (by rfl) W.heap.size 64 i0 _ 11 80 Try.underlying22 hi hz0 hz1 hz2 rfl (by decide) (by decide) w2 _ (k + 1) _ HO2.out (by rfl) _ (n - k) L2 (by rfl) HN2.out hfl2 (by omega) (by omega) hs2 (n + 1) _ (by omega) hins.out ?_); intro A3 c3 w3 hown3 hb3))
            go_roundg (zs.length - (n + 1))
            case measure => omega
            case rel => exact ⟨n + 1, A3, c3, rfl, by go_num, by omega, by omega, owns_mono hown3 hsz, Lib.hid (HW2.out.trans ((HB2.out.trans hb3).mono hsz))⟩
    · have hltz : ¬ (n : Int) < (zs.length : Int) := by omega
      obtain rfl : n = zs.length := by omega
      go_wp2
      go_ret
      exact ⟨_, rfl, by simpa using hown, HW.out⟩
end Go.Proofs.Ytdoemgccmjddcaa.So
