/- stats.went: whatever the function that it calls. -/
import Derived.Test.YtdoemgccmjddcaaSr3
import Derived.Maps.OwnSet
import Derived.StillTailTactics
namespace Go.Proofs.Ytdoemgccmjddcaa.Sr
open Go.RowKit Go.Maps Wd Li

structure CellsKept (w w' : World) : Prop where
  size : w.heap.size ≤ w'.heap.size
  blk : ∀ (k : Nat) cs e fr, w.heap[k]? = some (.cells cs e fr) → w'.heap[k]? = some (.cells cs e fr)
theorem CellsKept.refl (w : World) : CellsKept w w := ⟨Nat.le_refl _, fun _ _ _ _ h => h⟩
theorem CellsKept.trans {a b c : World} (h : CellsKept a b) (k : CellsKept b c) : CellsKept a c := ⟨Nat.le_trans h.size k.size, fun i cs e fr hh => k.blk i cs e fr (h.blk i cs e fr hh)⟩
theorem lt_of_get {w : World} {k : Nat} {o : Obj} (h : w.heap[k]? = some o) : k < w.heap.size := by
  rcases Nat.lt_or_ge k w.heap.size with h1 | h1
  · exact h1
  · rw [Array.getElem?_eq_none h1] at h; cases h
theorem CellsKept.alloc (w : World) (o : Obj) : CellsKept w (w.alloc o) := ⟨by simp, fun k cs e fr h => (Below.heap_alloc w o k (lt_of_get h)).trans h⟩
theorem CellsKept.drew (w : World) : CellsKept w w.drew := ⟨Nat.le_refl _, fun _ _ _ _ h => h⟩
theorem CellsKept.map {w w' : World} {M : Nat} {es clock} (hm : w.heap[M]? = some (.map es clock)) (hg : w.grownBy w' (some M)) : CellsKept w w' :=
  ⟨hg.size, fun k cs e fr h => (hg.block k (lt_of_get h) (fun e => by cases e; rw [hm] at h; cases h)).trans h⟩
def MapsKept (w w' : World) : Prop := ∀ (k : Nat) es clock, w.heap[k]? = some (.map es clock) → w'.heap[k]? = some (.map es clock)
theorem MapsKept.owns {H : Type} {P : Program} {k : TypeId} {R : Value → Option (DataW H × List MemPlace)} {w w' : World} {b n : Nat} {D : DataW H} (h : MapsKept w w') (hown : w.ownsMap P k R b n D) : w'.ownsMap P k R b n D := by
  obtain ⟨es, ck, hb, F, hs, hD⟩ := hown
  exact ⟨es, ck, h _ _ _ hb, F, hs, hD⟩
theorem owns_is_map {H : Type} {P : Program} {k : TypeId} {R : Value → Option (DataW H × List MemPlace)} {w : World} {b n : Nat} {D : DataW H} (hown : w.ownsMap P k R b n D) : ∃ es ck, w.heap[b]? = some (.map es ck) := by
  obtain ⟨es, ck, hb, F, hs, hD⟩ := hown
  exact ⟨es, ck, hb⟩
theorem owns_isMap {H : Type} {P : Program} {k : TypeId} {R : Value → Option (DataW H × List MemPlace)} {w : World} {b n : Nat} {D : DataW H} (K : Keyed P k) (hown : w.ownsMap P k R b n D) : IsMap D := (hown.tidy K).isMap

def i64 (n : Int) : DataW Unit := .lit (.int .i64 n)
/-- the map holds the first places -/
def Agree (D : DataW Unit) (l : List En) (k : Nat) : Prop := ∀ s : Int, Maps.has D (.int .i64 s) = (first l k s).isSome ∧ ∀ j, first l k s = some j → D.atKey (.int .i64 s) (i64 0) = i64 j
theorem first_step {l : List En} {k : Nat} {x : En} (hx : l[k]? = some x) (s : Int) : first l (k + 1) s = match first l k s with | some j => some j | none => if x.kept && x.seq == s then some k else none := by
  show (match first l k s with | some j => some j | none => match l[k]? with | some x => if x.kept && x.seq == s then some k else none | none => none) = _
  rw [hx]
theorem agree_keep {D : DataW Unit} {l : List En} {k : Nat} {x : En} (hx : l[k]? = some x) (h : ¬ (x.kept = true ∧ first l k x.seq = none)) (hA : Agree D l k) : Agree D l (k + 1) := by
  intro s
  have e : first l (k + 1) s = first l k s := by
    rw [first_step hx]
    cases hf : first l k s with
    | some j => rfl
    | none =>
      simp only
      rw [if_neg]
      intro hq
      simp only [Bool.and_eq_true, beq_iff_eq] at hq
      exact h ⟨hq.1, by rw [hq.2]; exact hf⟩
  rw [e]; exact hA s
theorem agree_put {D : DataW Unit} {l : List En} {k : Nat} {x : En} (hx : l[k]? = some x) (hk : x.kept = true) (hn : first l k x.seq = none) (hD : IsMap D) (hA : Agree D l k) : Agree (D.put (.int .i64 x.seq) (i64 k)) l (k + 1) := by
  intro s
  have hkey : WideAt.IsKeyLit (.int .i64 x.seq) := trivial
  by_cases e : s = x.seq
  · subst e
    have e1 : first l (k + 1) x.seq = some k := by rw [first_step hx, hn]; simp [hk]
    rw [e1]
    exact ⟨has_put_same hD hkey _, fun j hj => by cases hj; exact atKey_put_same hD hkey _ _⟩
  · have hne : (Lit.int .i64 s) ≠ .int .i64 x.seq := fun h => e (by injection h)
    have e1 : first l (k + 1) s = first l k s := by
      rw [first_step hx]
      cases hf : first l k s with
      | some j => rfl
      | none =>
        simp only
        rw [if_neg]
        intro hq
        simp only [Bool.and_eq_true, beq_iff_eq] at hq
        exact e hq.2.symm
    rw [e1, has_put_other hne, atKey_put_other hne]
    exact hA s
theorem went_none {l : List En} {k : Nat} {x : En} (hx : l[k]? = some x) (h : came l k x = none) : went l (k + 1) = went l k := by
  show went l k ++ went1 l k = _
  unfold went1; rw [hx]; simp only [h, List.append_nil]
theorem went_some {l : List En} {k j : Nat} {x y : En} (hx : l[k]? = some x) (h : came l k x = some j) (hy : l[j]? = some y) : went l (k + 1) = went l k ++ [(x, y)] := by
  show went l k ++ went1 l k = _
  unfold went1; rw [hx]; simp only [h, hy]
theorem went_len (l : List En) : ∀ k, (went l k).length ≤ k
  | 0 => Nat.le_refl _
  | k + 1 => by
    have := went_len l k
    show (went l k ++ went1 l k).length ≤ k + 1
    have h2 : (went1 l k).length ≤ 1 := by
      unfold went1
      split
      · split
        · split <;> simp
        · simp
      · simp
    rw [List.length_append]
    omega
theorem law3 : Keyed Try.prog 3 := int_keyed Try.underlying3
theorem zero3 (w : World) : (zeroValue 3).run Try.prog w = .ok (.int .i64 0) w := by kernel_rfl

/-- a call of a function value that is known -/
theorem wpList_value {P : Program} {ops : Array Oper} {rest : List Oper} {o : Oper} {a : Act} {Q : Exit → Act → World → Prop} {w : World} (hgd : o.guard = none) (t : Operand) (xs : Array Operand) (ts : Array TypeId)
    (ho : o.op = .call { callee := .value t, args := xs, argTypes := ts }) (fid : FuncId) (caps : Array Value) (hv : a.eval t = .func (.func fid) #[] caps) (args : Array Value) (hargs : xs.map a.eval ++ caps = args)
    (eg : ∀ args w, (callFunc fid args).run P w = .ok (.enter fid args) w)
    (h : Calls P fid args w fun e w' => ∃ v, e = .returned v ∧ wpList P ops Q rest (a.put o.dst v) w') : wpList P ops Q (o :: rest) a w := by
  refine wpList_plain hgd fun K hK => ?_
  have hrun : (execOp a.eval o).run P w = .ok (.enter fid args) w := by
    subst hargs
    simp [execOp, ho, resolve, hv, invoke, eg, Sem.run_bind, Result.andThen, Deferred.ofValue]
  unfold Oper.wp
  rw [hrun]
  refine Calls.mono h ?_
  rintro e w' ⟨v, rfl, hv⟩
  exact hK _ _ hv

def WentOk (Inv : List (En × En) → World → Prop) (ps : List (En × En)) (e : Ending) (w' : World) : Prop := ∃ v, e = .returned v ∧ Inv ps w'

theorem new_en (w : World) (x : En) : ∀ (i : Nat) (v : Value), x.cells[i]? = some v → (w.alloc (.cells #[.int .i64 x.kind, .string x.raw, .int .i64 x.n, .int .i64 x.okind, .int .i64 x.seq, .int .i64 x.leaf, .int .i64 x.lender, .int .i64 x.reason, .int .i64 x.now, .int .i64 x.wake, .string x.reply] 133)).cell? ⟨w.heap.size, i, none⟩ = some v := by
  intro i v hv
  have hi : i < 11 := (List.getElem?_eq_some_iff.1 hv).1
  have hh := heap_alloc_new w (.cells #[.int .i64 x.kind, .string x.raw, .int .i64 x.n, .int .i64 x.okind, .int .i64 x.seq, .int .i64 x.leaf, .int .i64 x.lender, .int .i64 x.reason, .int .i64 x.now, .int .i64 x.wake, .string x.reply] 133)
  simp only [World.cell?, hh]
  rw [← hv]
  simp [En.cells]

set_option maxRecDepth 20000 in
set_option maxHeartbeats 4000000 in
theorem went_c (fid : FuncId) (caps : Array Value) (A : Option Addr) (n c : Nat) (l : List En) (hlen : l.length ≤ 1048576) (hwf : ∀ (j : Nat) (x : En), l[j]? = some x → (Lit.int .i64 x.seq).wf = true) (Inv : List (En × En) → World → Prop)
    (eg : ∀ args w, (callFunc fid args).run Try.prog w = .ok (.enter fid args) w)
    (hls : ∀ ps w, Inv ps w → Ls w.heap.size w (.slice A n c) l)
    (hcall : ∀ ps x y w, Inv ps w → x ∈ l → y ∈ l → ps.length < l.length → Calls Try.prog fid (#[x.agg, y.agg] ++ caps) w fun e w' => ∃ v, e = .returned v ∧ Inv (ps ++ [(x, y)]) w' ∧ MapsKept w w' ∧ w.heap.size ≤ w'.heap.size)
    (w : World) (hst : ∀ ps w1 w2, Inv ps w1 → CellsKept w1 w2 → Below w.heap.size w1 w2 → Inv ps w2) (hi : Inv [] w) :
    Calls Try.prog 108 #[.slice A n c, .func (.func fid) #[] caps] w (WentOk Inv (went l l.length)) := by
  have hmm := @run_makeMap Try.prog
  have HI := Lib.hid hi
  have HST := Lib.hid hst
  have HLS := Lib.hid hls
  have HCALL := Lib.hid hcall
  have HWF := Lib.hid hwf
  obtain rfl : n = l.length := (hls _ _ hi).parts.1
  clear hi hst hls hcall hwf
  go_enter Try.func108, Try.ntmps108
  go_wp2_with fail
  go_loopg [14] l.length (fun kx s14 wr => ∃ (k : Nat) (D : DataW Unit), s14 = .int .i64 k ∧ k ≤ l.length ∧ l.length - k ≤ kx ∧ Hid (wr.ownsMap Try.prog 3 (plainElem Try.prog 3) w.heap.size k D) ∧ Hid (Agree D l k) ∧ Hid (Inv (went l k) wr) ∧ w.heap.size < wr.heap.size)
  case atStart =>
    refine ⟨0, .map [], rfl, by omega, by omega, Lib.hid (World.ownsMap_made _ _ _ _), Lib.hid (fun s => ⟨rfl, fun j h => by cases h⟩), Lib.hid ?_, by simp⟩
    exact HST.out _ _ _ HI.out (CellsKept.alloc _ _) ((Below.refl _ _).alloc (Nat.le_refl _) _)
  case round =>
    obtain ⟨k, D, rfl, hk, hkx, HO, HA, HN, hsz⟩ := hrel
    by_cases hlt : k < l.length
    · have hltz : (k : Int) < (l.length : Int) := by omega
      obtain ⟨x, hx⟩ : ∃ x, l[k]? = some x := ⟨l[k], List.getElem?_eq_getElem hlt⟩
      obtain ⟨b, off, rfl, hb, hc⟩ := ((HLS.out _ _ HN.out).parts.2) (by omega)
      have hcx := hc k x hx
      have c0 : wr.cell? ⟨b, off + k * 11, none⟩ = some (.int .i64 x.kind) := hcx 0 _ rfl
      have c1 := hcx 1 _ rfl; have c2 := hcx 2 _ rfl; have c3 := hcx 3 _ rfl; have c4 := hcx 4 _ rfl; have c5 := hcx 5 _ rfl
      have c6 := hcx 6 _ rfl; have c7 := hcx 7 _ rfl; have c8 := hcx 8 _ rfl; have c9 := hcx 9 _ rfl; have c10 := hcx 10 _ rfl
      have HX := Lib.hid hx
      have HC := Lib.hid hc
      have HB := Lib.hid hb
      have hkey := keyOf_int_mk (P := Try.prog) (k := 3) Try.underlying3 (HWF.out k x hx)
      clear hx hc hcx
      have hmx : k < maxLen := by unfold maxLen; omega
      have hwfk : (Lit.int .i64 (k : Int)).wf = true := WalkArith.wf_i64 (by omega)
      by_cases h1 : x.kind = 1
      · have e1 : (x.kind == 1) = true := by rw [beq_iff_eq]; exact h1
        have H1 := Lib.hid h1
        clear h1
        cases hf : first l k x.seq with
        | some j =>
          have hh : Maps.has D (.int .i64 x.seq) = true := by rw [(HA.out _).1, hf]; rfl
          have HF := Lib.hid hf
          clear hf
          go_wp2_with (first | (at_lookup; refine wpList_lookup_own_ok_int _ (by rfl) _ _ 164 (by rfl) 3 3 .i64 law3 Try.underlying164 Try.underlying3 (zero3 _) w.heap.size k D (by rfl) (HO.out.alloc _) _ _ (by rfl) hkey ?_; intro q hat hwq))
          go_roundg (l.length - (k + 1))
          case measure => omega
          case rel =>
            refine ⟨k + 1, D, by go_num, by omega, by omega, Lib.hid ((HO.out.alloc _).mono (Nat.le_succ k)), Lib.hid (agree_keep HX.out ?_ HA.out), Lib.hid ?_, by simp; omega⟩
            · intro h; rw [HF.out] at h; cases h.2
            · rw [went_none HX.out (by unfold came; rw [if_neg]; simp [En.sent, H1.out])]
              exact HST.out _ _ _ HN.out (CellsKept.alloc _ _) ((Below.refl _ _).alloc (Nat.le_of_lt hsz) _)
        | none =>
          have hh : Maps.has D (.int .i64 x.seq) = false := by rw [(HA.out _).1, hf]; rfl
          have HF := Lib.hid hf
          clear hf
          by_cases h2 : x.reason = 0
          · have e2 : (x.reason == 0) = true := by rw [beq_iff_eq]; exact h2
            have H2 := Lib.hid h2
            clear h2
            go_wp2_with (first | (at_lookup; refine wpList_lookup_own_ok_int _ (by rfl) _ _ 164 (by rfl) 3 3 .i64 law3 Try.underlying164 Try.underlying3 (zero3 _) w.heap.size k D (by rfl) (HO.out.alloc _) _ _ (by rfl) hkey ?_; intro q hat hwq) | (at_mapUpdate; refine wpList_mapUpdate_own _ (by rfl) _ _ _ 164 (by rfl) 3 3 law3 Try.underlying164 _ w.heap.size k D (by rfl) (HO.out.alloc _) hmx _ _ _ (by rfl) (by rfl) hkey _ [] (plainElem_int Try.underlying3 hwfk) ?_; intro w1 hown1 hgrow1))
            go_roundg (l.length - (k + 1))
            case measure => omega
            case rel =>
              refine ⟨k + 1, _, by go_num, by omega, by omega, Lib.hid hown1, Lib.hid (agree_put HX.out (by simp [En.kept, H1.out, H2.out]) HF.out (owns_isMap law3 HO.out) HA.out), Lib.hid ?_, by have := hgrow1.size; simp at this; omega⟩
              rw [went_none HX.out (by unfold came; rw [if_neg]; simp [En.sent, H1.out])]
              obtain ⟨es, ck, hm⟩ := owns_is_map (HO.out.alloc (.cells #[.int .i64 x.kind, .string x.raw, .int .i64 x.n, .int .i64 x.okind, .int .i64 x.seq, .int .i64 x.leaf, .int .i64 x.lender, .int .i64 x.reason, .int .i64 x.now, .int .i64 x.wake, .string x.reply] 133))
              exact HST.out _ _ _ HN.out ((CellsKept.alloc _ _).trans (CellsKept.map hm hgrow1)) (((Below.refl _ _).alloc (Nat.le_of_lt hsz) _).grown hgrow1 (by simp; omega) (fun k hk => by cases hk; exact Nat.le_refl _))
          · have e2 : (x.reason == 0) = false := by rw [beq_eq_false_iff_ne]; exact h2
            have H2 := Lib.hid h2
            clear h2
            go_wp2_with (first | (at_lookup; refine wpList_lookup_own_ok_int _ (by rfl) _ _ 164 (by rfl) 3 3 .i64 law3 Try.underlying164 Try.underlying3 (zero3 _) w.heap.size k D (by rfl) (HO.out.alloc _) _ _ (by rfl) hkey ?_; intro q hat hwq))
            go_roundg (l.length - (k + 1))
            case measure => omega
            case rel =>
              refine ⟨k + 1, D, by go_num, by omega, by omega, Lib.hid ((HO.out.alloc _).mono (Nat.le_succ k)), Lib.hid (agree_keep HX.out ?_ HA.out), Lib.hid ?_, by simp; omega⟩
              · intro h; have := h.1; simp [En.kept, H2.out] at this
              · rw [went_none HX.out (by unfold came; rw [if_neg]; simp [En.sent, H1.out])]
                exact HST.out _ _ _ HN.out (CellsKept.alloc _ _) ((Below.refl _ _).alloc (Nat.le_of_lt hsz) _)
      · have e1 : (x.kind == 1) = false := by rw [beq_eq_false_iff_ne]; exact h1
        have H1 := Lib.hid h1
        clear h1
        by_cases h2 : x.kind = 2
        · have e2 : (x.kind == 2) = true := by rw [beq_iff_eq]; exact h2
          have H2 := Lib.hid h2
          clear h2
          cases hf : first l k x.seq with
          | none =>
            have hh : Maps.has D (.int .i64 x.seq) = false := by rw [(HA.out _).1, hf]; rfl
            have HF := Lib.hid hf
            clear hf
            go_wp2_with (first | (at_lookup; refine wpList_lookup_own_ok_int _ (by rfl) _ _ 164 (by rfl) 3 3 .i64 law3 Try.underlying164 Try.underlying3 (zero3 _) w.heap.size k D (by rfl) (HO.out.alloc _) _ _ (by rfl) hkey ?_; intro q hat hwq))
            go_roundg (l.length - (k + 1))
            case measure => omega
            case rel =>
              refine ⟨k + 1, D, by go_num, by omega, by omega, Lib.hid ((HO.out.alloc _).mono (Nat.le_succ k)), Lib.hid (agree_keep HX.out ?_ HA.out), Lib.hid ?_, by simp; omega⟩
              · intro h; have := h.1; simp [En.kept, H1.out] at this
              · rw [went_none HX.out (by unfold came; split; exact HF.out; rfl)]
                exact HST.out _ _ _ HN.out (CellsKept.alloc _ _) ((Below.refl _ _).alloc (Nat.le_of_lt hsz) _)
          | some j =>
            have hh : Maps.has D (.int .i64 x.seq) = true := by rw [(HA.out _).1, hf]; rfl
            have HF := Lib.hid hf
            clear hf
            by_cases h3 : 0 < x.seq
            · have e3 : decide (0 < x.seq) = true := decide_eq_true h3
              have H3 := Lib.hid h3
              clear h3
              go_upto_region 12 with (first | (at_lookup; refine wpList_lookup_own_ok_int _ (by rfl) _ _ 164 (by rfl) 3 3 .i64 law3 Try.underlying164 Try.underlying3 (zero3 _) w.heap.size k D (by rfl) (HO.out.alloc _) _ _ (by rfl) hkey ?_; intro q hat hwq))
              obtain rfl : q = (j : Int) := by
                have h9 := hat.symm.trans ((HA.out x.seq).2 j HF.out)
                simpa [i64] using h9
              obtain ⟨hj, y, hy, _, _⟩ := first_lt HF.out
              have hjl : (j : Int) < (l.length : Int) := by omega
              generalize hWW : World.alloc wr _ = W
              have hBW : Below wr.heap.size wr W := by rw [← hWW]; exact (Below.refl _ _).alloc (Nat.le_refl _) _
              have hCW : CellsKept wr W := by rw [← hWW]; exact CellsKept.alloc _ _
              have hOW : W.ownsMap Try.prog 3 (plainElem Try.prog 3) w.heap.size k D := by rw [← hWW]; exact HO.out.alloc _
              have hg : ∀ (i : Nat) (v : Value), x.cells[i]? = some v → W.cell? ⟨wr.heap.size, i, none⟩ = some v := by intro i v hv; rw [← hWW]; exact new_en wr x i v hv
              have g0 := hg 0 _ rfl
              have g1 := hg 1 _ rfl
              have g2 := hg 2 _ rfl
              have g3 := hg 3 _ rfl
              have g4 := hg 4 _ rfl
              have g5 := hg 5 _ rfl
              have g6 := hg 6 _ rfl
              have g7 := hg 7 _ rfl
              have g8 := hg 8 _ rfl
              have g9 := hg 9 _ rfl
              have g10 := hg 10 _ rfl
              have hcy : ∀ (i : Nat) (v : Value), y.cells[i]? = some v → W.cell? ⟨b, off + j * 11 + i, none⟩ = some v := fun i v hv => (hBW.cell (p := ⟨b, off + j * 11 + i, none⟩) HB.out).trans (HC.out j y hy i v hv)
              have d0 : W.cell? ⟨b, off + j * 11, none⟩ = some (.int .i64 y.kind) := hcy 0 _ rfl
              have d1 := hcy 1 _ rfl; have d2 := hcy 2 _ rfl; have d3 := hcy 3 _ rfl; have d4 := hcy 4 _ rfl; have d5 := hcy 5 _ rfl
              have d6 := hcy 6 _ rfl; have d7 := hcy 7 _ rfl; have d8 := hcy 8 _ rfl; have d9 := hcy 9 _ rfl; have d10 := hcy 10 _ rfl
              have HY := Lib.hid hy
              have HBW := Lib.hid hBW
              have HCW := Lib.hid hCW
              have HOW := Lib.hid hOW
              clear hg hy hcy hWW hBW hCW hOW c0 c1 c2 c3 c4 c5 c6 c7 c8 c9 c10
              go_still_tail 6, (by kernel_rfl)
              change wpList _ _ _ _ _ (World.drew _)
              have hinv : Inv (went l k) W.drew := HST.out _ _ _ HN.out (HCW.out.trans (CellsKept.drew _)) ((HBW.out.mono (Nat.le_of_lt hsz)).drew)
              have hcal := HCALL.out (went l k) x y _ hinv (List.mem_of_getElem? HX.out) (List.mem_of_getElem? HY.out) (by have := went_len l k; omega)
              have HOD : Hid (W.drew.ownsMap Try.prog 3 (plainElem Try.prog 3) w.heap.size k D) := Lib.hid HOW.out
              have hszd : wr.heap.size ≤ W.drew.heap.size := HBW.out.size
              clear hinv g0 g1 g2 g3 g4 g5 g6 g7 g8 g9 g10 d0 d1 d2 d3 d4 d5 d6 d7 d8 d9 d10
              generalize W.drew = W2 at *
              have HCL := Lib.hid hcal
              clear hcal
              refine wpList_value (by rfl) _ _ _ (by rfl) fid caps (by rfl) (#[x.agg, y.agg] ++ caps) (by unfold En.agg; go_simp) eg ?_
              refine (HCL.out).mono ?_
              rintro e w2 ⟨v2, rfl, hinv2, hmaps, hs2⟩
              refine ⟨v2, rfl, ?_⟩
              clear eg HCL
              go_wp2
              go_roundg (l.length - (k + 1))
              case measure => omega
              case rel =>
                refine ⟨k + 1, D, by go_num, by omega, by omega, Lib.hid ((hmaps.owns HOD.out).mono (Nat.le_succ k)), Lib.hid (agree_keep HX.out ?_ HA.out), Lib.hid ?_, by omega⟩
                · intro h; have := h.1; simp [En.kept, H1.out] at this
                · rw [went_some HX.out (by unfold came; rw [if_pos (by simp [En.sent, H2.out, H3.out])]; exact HF.out) HY.out]
                  exact hinv2
            · have e3 : decide (0 < x.seq) = false := decide_eq_false h3
              have H3 := Lib.hid h3
              clear h3
              go_wp2_with (first | (at_lookup; refine wpList_lookup_own_ok_int _ (by rfl) _ _ 164 (by rfl) 3 3 .i64 law3 Try.underlying164 Try.underlying3 (zero3 _) w.heap.size k D (by rfl) (HO.out.alloc _) _ _ (by rfl) hkey ?_; intro q hat hwq))
              go_roundg (l.length - (k + 1))
              case measure => omega
              case rel =>
                refine ⟨k + 1, D, by go_num, by omega, by omega, Lib.hid ((HO.out.alloc _).mono (Nat.le_succ k)), Lib.hid (agree_keep HX.out ?_ HA.out), Lib.hid ?_, by simp; omega⟩
                · intro h; have := h.1; simp [En.kept, H1.out] at this
                · rw [went_none HX.out (by unfold came; rw [if_neg]; have := H3.out; simp [En.sent]; omega)]
                  exact HST.out _ _ _ HN.out (CellsKept.alloc _ _) ((Below.refl _ _).alloc (Nat.le_of_lt hsz) _)
        · have e2 : (x.kind == 2) = false := by rw [beq_eq_false_iff_ne]; exact h2
          have H2 := Lib.hid h2
          clear h2
          go_wp2_with fail
          go_roundg (l.length - (k + 1))
          case measure => omega
          case rel =>
            refine ⟨k + 1, D, by go_num, by omega, by omega, Lib.hid ((HO.out.alloc _).mono (Nat.le_succ k)), Lib.hid (agree_keep HX.out ?_ HA.out), Lib.hid ?_, by simp; omega⟩
            · intro h; have := h.1; simp [En.kept, H1.out] at this
            · rw [went_none HX.out (by unfold came; rw [if_neg]; simp [En.sent, H2.out])]
              exact HST.out _ _ _ HN.out (CellsKept.alloc _ _) ((Below.refl _ _).alloc (Nat.le_of_lt hsz) _)
    · have hltz : ¬ (k : Int) < (l.length : Int) := by omega
      obtain rfl : k = l.length := by omega
      go_wp2
      (try simp only [Exit.inBlock, Exit.then])
      refine bodyPost_ret (results_none rfl _ _ _) rfl ?_
      exact ⟨_, rfl, HN.out⟩
end Go.Proofs.Ytdoemgccmjddcaa.Sr
