/- The reference's Lenders. -/
import Derived.Test.YtdoemgccmjddcaaPb5
import Derived.Test.YtdoemgccmjddcaaPc1
import Derived.Deep.RegionHeld3
namespace Go.Proofs.Ytdoemgccmjddcaa.Pa
open Go.RowKit Go.Maps Go.Proofs.Ytdoemgccmjddcaa.Wd Go.Proofs.Ytdoemgccmjddcaa.Li Go.Proofs.Ytdoemgccmjddcaa.Mp Go.Proofs.Ytdoemgccmjddcaa.Tp Go.Proofs.Ytdoemgccmjddcaa.Tr Go.Proofs.Ytdoemgccmjddcaa.Cl Go.Proofs.Ytdoemgccmjddcaa.So Go.Proofs.Ytdoemgccmjddcaa.Sw
attribute [local go_sem] run_store_float

theorem step_cats {P : Program} {ops : Array Oper} {o : Oper} {a : Act} {K : Act → World → Prop} {Q : Exit → Act → World → Prop} {E : Prop} (hgd : o.guard = none) (s x : Operand) (t : TypeId)
    (ho : o.op = .call { callee := .builtin .append, args := #[s, x], argTypes := #[t, t] })
    (base : Nat) (e : TypeId) (i : TypeInfo) (z : Value) (size bytes : Nat) (ht : P.underlying t = some (.slice e)) (hi : P.info? e = some i) (hz : i.zero = some z)
    (hsize : i.size = size) (hby : i.bytes = bytes) (hzs : z.cells.size = size) (hsz : 0 < size) (hb8 : bytes ≤ 4096) (w : World)
    (v : Value) (n : Nat) (xs : List Value) (hown : w.ownsRow base e size v n xs) (hs : a.eval s = v) (X : Value) (m : Nat) (news : List Value)
    (hx : a.eval x = X) (hN : Li.News w size X m news) (h1 : ∀ u ∈ news, u.oneCell' = true) (hn : n < 4194304) (hm : m < 4194304) (hbase : base ≤ w.heap.size) (N : Nat) (ys : List Value) (hNm : n + m = N) (hys : xs ++ news = ys)
    (h : ∀ A cap w1, w1.ownsRow base e size (.slice A N cap) N ys → Below base w w1 → K (a.put o.dst (.slice A N cap)) w1) : if Region.wanted o (yielded ops a.tmps) = true then Oper.wp P o a w K Q else E := by
  have hw : Region.wanted o (yielded ops a.tmps) = true := by simp [Region.wanted, hgd]
  rw [if_pos hw]
  have H : wpList P ops (Lx.Nq K) [o] a w := Li.wpList_cats hgd s x t ho base e i z size bytes ht hi hz hsize hby hzs hsz hb8 w v n xs hown hs X m news hx hN h1 hn hm hbase N ys hNm hys (fun A cap w1 h1 h2 => wpList_nil (h A cap w1 h1 h2))
  unfold wpList at H
  rw [if_pos hw] at H
  rcases H with H | ⟨_, H⟩
  · unfold Oper.wp at H ⊢
    generalize (execOp a.eval o).run P w = r at H
    cases r with
    | halt x w' => cases x <;> exact H.elim
    | ok n w' =>
      cases n with
      | value u => exact H
      | skip => exact H
      | defer q => exact H
      | enter f args =>
        refine Calls.mono H (fun e w'' he => ?_)
        cases e with
        | returned u => exact he
        | panicked c => exact he.elim
        | outgrown => exact absurd he Lx.nq_out
      | row r args => exact Rows.mono H (fun u w'' he => he)
      | _ => exact H.elim
  · exact absurd H Lx.nq_out

theorem own_one {w : World} {n : Nat} {p : Int} (h : n ≤ w.heap.size) : (w.alloc (.cells #[.int .i64 p] 3)).ownsRow n 3 1 (.slice (some ⟨w.heap.size, 0, none⟩) 1 1) 1 [.int .i64 p] :=
  ⟨rfl, .inr ⟨w.heap.size, 1, #[.int .i64 p], rfl, h, World.alloc_heap_new w _, Nat.le_refl _, by decide, rfl, rfl⟩⟩
set_option maxRecDepth 20000 in
set_option maxHeartbeats 1500000 in
theorem reflend_step (A : Option Addr) (cap : Nat) (l : List Cls) (F0 : Fit l) (id : Int) (w : World) (hI : Holds w.heap.size w (.slice A l.length cap) l)
    (hp : ∀ c, at? l id = some c → (brw c && !(c.parent == 0)) = true → ∀ w', Below w.heap.size w w' → Calls Try.prog 96 #[.slice A l.length cap, .int .i64 c.parent] w' (PathOk (lendS l c.parent) w')) :
    Calls Try.prog 96 #[.slice A l.length cap, .int .i64 id] w (PathOk (lendS l id) w) := by
  obtain ⟨i0, hi, hz0, hz1, hz2⟩ := info_parts info3
  have hfind := reffind_c A l.length cap w.heap.size l id (by have := F0.le; omega) w hI
  rcases find_at (zs := l) (id := id) with ⟨hf, ha⟩ | ⟨i, c, hf, hc, ha⟩
  · have hfz : decide (findC l id < 0) = true := decide_eq_true hf
    have HW := Lib.hid (lend_absent ha)
    have HF := Lib.hid hfind
    clear hfind hf ha hI hp F0
    unfold PathOk ListOk
    go_enter Try.func96, Try.ntmps96
    go_wp2_with (go_at_call 51; (with_reducible refine (HF.out).mono ?_); rintro e w2 ⟨rfl, rfl⟩)
    go_ret
    rw [HW.out]
    exact ⟨⟨none, 0, rfl, Sl.nil, Below.refl _ _⟩, _, rfl, .inr ⟨rfl, rfl, rfl⟩⟩
  · have hil := (List.getElem?_eq_some_iff.1 hc).1
    have hF5 := F0.le
    obtain ⟨_, hcs⟩ := holds_parts hI
    obtain ⟨b, off, rfl, hb, hcc⟩ := hcs (by omega)
    have c1 := hcc i c hc 1 _ rfl
    have c9 := hcc i c hc 9 _ rfl
    have c10 := hcc i c hc 10 _ rfl
    have HF := Lib.hid hfind
    rw [hf] at HF
    have hilz : (i : Int) < (l.length : Int) := by omega
    have hfz : decide ((i : Int) < 0) = false := decide_eq_false (by omega)
    obtain ⟨qb, hqb⟩ : ∃ q, q = c.bounded := ⟨_, rfl⟩
    obtain ⟨qi, hqi⟩ : ∃ q, q = c.isolated := ⟨_, rfl⟩
    rw [← hqb] at c9
    rw [← hqi] at c10
    cases qb with
    | true =>
      have HW := Lib.hid (lend_none F0 ha (by unfold brw; rw [← hqb]; simp))
      clear hfind hf ha hI hp F0 hcs hcc hc hqb hqi
      unfold PathOk ListOk
      go_enter Try.func96, Try.ntmps96
      go_wp2_with (go_at_call 51; (with_reducible refine (HF.out).mono ?_); rintro e w9 ⟨rfl, hw9⟩; subst w9)
      go_ret
      rw [HW.out]
      exact ⟨⟨none, 0, rfl, Sl.nil, Below.refl _ _⟩, _, rfl, .inr ⟨rfl, rfl, rfl⟩⟩
    | false =>
      cases qi with
      | true =>
        have HW := Lib.hid (lend_none F0 ha (by unfold brw; rw [← hqi]; simp))
        clear hfind hf ha hI hp F0 hcs hcc hc hqb hqi
        unfold PathOk ListOk
        go_enter Try.func96, Try.ntmps96
        go_wp2_with (go_at_call 51; (with_reducible refine (HF.out).mono ?_); rintro e w9 ⟨rfl, hw9⟩; subst w9)
        go_ret
        rw [HW.out]
        exact ⟨⟨none, 0, rfl, Sl.nil, Below.refl _ _⟩, _, rfl, .inr ⟨rfl, rfl, rfl⟩⟩
      | false =>
        by_cases h0 : c.parent = 0
        · have e0 : (c.parent == 0) = true := by simp [h0]
          have HW := Lib.hid (lend_none F0 ha (by rw [e0]; simp))
          clear hfind hf ha hI hp F0 hcs hcc hc hqb hqi h0
          unfold PathOk ListOk
          go_enter Try.func96, Try.ntmps96
          go_wp2_with (go_at_call 51; (with_reducible refine (HF.out).mono ?_); rintro e w9 ⟨rfl, hw9⟩; subst w9)
          go_ret
          rw [HW.out]
          exact ⟨⟨none, 0, rfl, Sl.nil, Below.refl _ _⟩, _, rfl, .inr ⟨rfl, rfl, rfl⟩⟩
        · have e0 : (c.parent == 0) = false := by simp [h0]
          have hg : (brw c && !(c.parent == 0)) = true := by unfold brw; rw [← hqi, ← hqb, e0]; rfl
          have HW := Lib.hid (lend_some F0 ha hg)
          have hB1 : Below w.heap.size w (w.alloc (.cells #[.int .i64 c.parent] 3)).drew := ((Below.refl _ w).alloc (Nat.le_refl _) _).drew
          have HR1 : Hid ((w.alloc (.cells #[.int .i64 c.parent] 3)).drew.ownsRow w.heap.size 3 1 (.slice (some ⟨w.heap.size, 0, none⟩) 1 1) 1 [.int .i64 c.parent]) := Lib.hid ⟨rfl, .inr ⟨w.heap.size, 1, #[.int .i64 c.parent], rfl, Nat.le_refl _, World.alloc_heap_new w _, Nat.le_refl _, by decide, rfl, rfl⟩⟩
          have HP := Lib.hid (hp c ha hg)
          have HBd := Lib.hid ((Below.refl w.heap.size w).drew)
          have HK := Lib.hid (fun u (hu : Below w.heap.size w u) => (hu.cell (p := ⟨b, off + i * 11 + 1, none⟩) hb).trans c1)
          have hl2 := lend_len l c.parent
          have HB1 := Lib.hid hB1
          have HBB := Lib.hid hb
          generalize hL : lendS l c.parent = ps at *
          have HON : Hid (∀ u ∈ St.I ps, u.oneCell' = true) := Lib.hid (by intro u hu; unfold St.I at hu; obtain ⟨y, _, rfl⟩ := List.mem_map.1 hu; rfl)
          have HPL : Hid (ps.length < 4194304) := Lib.hid (by omega)
          have HPN : Hid (1 + ps.length = ps.length + 1) := Lib.hid (by omega)
          clear hfind hf ha hI hp F0 hcs hcc hc hqb hqi h0 hg hL hB1
          unfold PathOk ListOk at *
          rw [HW.out]
          go_enter Try.func96, Try.ntmps96
          go_upto_region 4 with (go_at_call 51; (with_reducible refine (HF.out).mono ?_); rintro e w9 ⟨rfl, hw9⟩; subst w9)
          go_region_held3 (fun w' => w'.cell? ⟨b, off + i * 11 + 1, none⟩ = some (.int .i64 c.parent)) ((refine HK.out _ ?_; (repeat' (first | assumption | exact Below.refl _ _ | refine Below.drew ?_ | refine Below.alloc ?_ ?_ _ | omega | (simp; omega))))) (first
            | (go_at_call 96; (with_reducible refine (HP.out _ HB1.out).mono ?_); rintro e w2 ⟨⟨A1, c1', rfl, hs1, hb2⟩, v2, hv2, hN2⟩; injection hv2 with hv2; subst hv2; have hbK := HB1.out.trans (hb2.mono HB1.out.size); have hbKs := hbK.size; have hR2 := own_same (w' := w2) HR1.out (fun q hq => hb2.block q (HR1.out.lt q hq).2))
            | (go_at_call 96; (with_reducible refine (HP.out _ HBd.out).mono ?_); rintro e w2 ⟨⟨A1, c1', rfl, hs1, hb2⟩, v2, hv2, hN2⟩; injection hv2 with hv2; subst hv2; have hbK := HBd.out.trans (hb2.mono HBd.out.size); have hbKs := hbK.size)
            | (refine step_cats rfl _ _ 27 rfl w.heap.size 3 i0 _ 1 8 Try.underlying27 hi hz0 hz1 hz2 rfl (by decide) (by decide) _ _ 1 _ hR2 (by simp [Act.eval]) _ ps.length (St.I ps) (by simp [Act.eval]) hN2 HON.out (by decide) HPL.out (Nat.le_trans HBd.out.size hbK.size) (ps.length + 1) (St.I (c.parent :: ps)) HPN.out rfl ?_; intro A3 c3 w3 hown3 hb3; have hbK3 := hbK.trans hb3)
            | (refine step_cats rfl _ _ 27 rfl w.heap.size 3 i0 _ 1 8 Try.underlying27 hi hz0 hz1 hz2 rfl (by decide) (by decide) _ _ 1 _ (own_one hbK.size) (by simp [Act.eval]) _ ps.length (St.I ps) (by simp [Act.eval]) (hN2.alloc _) HON.out (by decide) HPL.out (Nat.le_trans hbK.size (by simp)) (ps.length + 1) (St.I (c.parent :: ps)) HPN.out rfl ?_; intro A3 c3 w3 hown3 hb3; have hbK3 := (hbK.alloc hbK.size _).trans hb3))
          all_goals
            go_wp2_with fail
            go_ret
            have hsl := Sl.of_own hown3
            obtain ⟨a, ha, _, hca⟩ := hsl.2 (by omega)
            exact ⟨⟨A3, c3, rfl, hsl, hbK3⟩, _, rfl, .inl ⟨a, c3, by rw [ha]; rfl, hsl.1, hca⟩⟩

theorem reflend_c (A : Option Addr) (cap : Nat) (l : List Cls) (F0 : Fit l) : ∀ (n : Nat) (id : Int), (lendS l id).length ≤ n → ∀ (w : World), Holds w.heap.size w (.slice A l.length cap) l →
    Calls Try.prog 96 #[.slice A l.length cap, .int .i64 id] w (PathOk (lendS l id) w)
  | 0, id, hn, w, hI => reflend_step A cap l F0 id w hI (fun c hc hg => by rw [lend_some F0 hc hg] at hn; simp at hn)
  | n + 1, id, hn, w, hI => reflend_step A cap l F0 id w hI (fun c hc hg w' hB => reflend_c A cap l F0 n c.parent (by rw [lend_some F0 hc hg] at hn; simp at hn; omega) w' (holds_next hI hB))
end Go.Proofs.Ytdoemgccmjddcaa.Pa
