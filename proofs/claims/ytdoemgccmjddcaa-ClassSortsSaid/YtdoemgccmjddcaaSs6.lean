/- slices.SortStableFunc's family at classes: symMerge by induction; the blocks, merged two by two. -/
import Derived.Test.YtdoemgccmjddcaaSs5
import Derived.Shelf.Lay
namespace Go.Proofs.Ytdoemgccmjddcaa.So
open Go.Shelf Go.RowKit Go.Lib Go.Sort
variable {α : Type} [Inhabited α] {key : α → Int}

theorem sym_all {P : Program} {k : Nat} (L : SL P k) (enc : α → List Value) (cf : α → α → Int) (hcf : ∀ x y, cf x y < 0 ↔ key x < key y) (g : Nat) (cb : Array Value) (blk off cap sz : Nat) (d0 : Array α) (w0 : World)
    (eg : ∀ args w, (callFunc g args).run P w = .ok (.enter g args) w) (hcmp : CmpLays P g cb enc k cf blk off sz w0)
    (R : RowK enc k w0 blk off d0) (hs : d0.size = sz) (hsz : sz < 4611686018427387904) : ∀ N, Sym P enc key k g cb blk off cap sz w0 N
  | 0 => fun a m b d w h => absurd h (by omega)
  | N + 1 => fun a m b d w hN ham hmb hb hd S hA hB az mz bz ea em eb => by
    have ih := sym_all L enc cf hcf g cb blk off cap sz d0 w0 eg hcmp R hs hsz N
    subst ea em eb
    by_cases h1 : m = a + 1
    · exact sym_first L enc cf hcf g cb blk off cap sz a m b h1 d0 d w0 w eg hcmp R hs hd S hmb hb hsz hB
    · by_cases h2 : b = m + 1
      · exact sym_last L enc cf hcf g cb blk off cap sz a m b h2 d0 d w0 w eg hcmp R hs hd S (by omega) hb hsz hA
      · exact sym_rec L enc cf hcf g cb blk off cap sz a m b d0 d w0 w eg hcmp R hs hd S (by omega) (by omega) hb hsz hA hB
          (fun a' m' b' d' w' h => ih a' m' b' d' w' (by omega))

/-! ### The blocks -/
/-- the blocks of s that are whole before i are sorted, and so is each later one, up to n; the elements are those of d -/
structure Bl (key : α → Int) (d d' : Array α) (s i n : Nat) : Prop where
  size : d'.size = d.size
  ren : Ren key (sg d 0 n) (sg d' 0 n)
  srt : ∀ a, s ∣ a → a < i → Srt key (sg d' a (min (a + s) n))
theorem Bl.step {d d' d'' : Array α} {s i e n : Nat} (h : Bl key d d' s i n) (hi : s ∣ i) (hs : 0 < s) (he : e = min (i + s) n) (hin : i ≤ n) (hm : MerR key d' d'' i e) : Bl key d d'' s (i + s) n := by
  refine ⟨hm.size.trans h.size, ?_, fun a ha hai => ?_⟩
  · refine h.ren.trans ?_
    rw [← sg_app d' (m := i) (Nat.zero_le _) hin, ← sg_app d'' (m := i) (Nat.zero_le _) hin, ← sg_app d' (a := i) (m := e) (by omega) (by omega), ← sg_app d'' (a := i) (m := e) (by omega) (by omega),
      sg_same (d := d'') (d' := d') (a := 0) (b := i) fun j p q => hm.out j (by omega), sg_same (d := d'') (d' := d') (a := e) (b := n) fun j p q => hm.out j (by omega)]
    exact (Ren.refl _).append (hm.ren.append (Ren.refl _))
  · by_cases hlt : a < i
    · have : a + s ≤ i := by
        obtain ⟨u, rfl⟩ := ha; obtain ⟨v, rfl⟩ := hi
        have : u < v := Nat.lt_of_mul_lt_mul_left hlt
        have := Nat.mul_le_mul_left s (show u + 1 ≤ v from this)
        rwa [Nat.mul_add, Nat.mul_one] at this
      rw [sg_same (d := d'') (d' := d') fun j p q => hm.out j (by omega)]
      exact h.srt a ha hlt
    · have : a = i := by
        obtain ⟨u, rfl⟩ := ha; obtain ⟨v, rfl⟩ := hi
        have h1 : ¬ u < v := fun h => hlt (by have := Nat.mul_lt_mul_of_pos_left h hs; exact this)
        have h2 : u < v + 1 := by
          have : s * u < s * (v + 1) := by rw [Nat.mul_add, Nat.mul_one]; exact hai
          exact Nat.lt_of_mul_lt_mul_left this
        rw [show u = v by omega]
      subst this
      rw [← he]; exact hm.srt
/-- merging blocks of s two by two: those before i are merged (2 s each), those from i on not yet -/
structure Mg (key : α → Int) (d d' : Array α) (s i n : Nat) : Prop where
  size : d'.size = d.size
  ren : Ren key (sg d 0 n) (sg d' 0 n)
  done : ∀ a, 2 * s ∣ a → a < i → Srt key (sg d' a (min (a + 2 * s) n))
  todo : ∀ a, s ∣ a → i ≤ a → a < n → Srt key (sg d' a (min (a + s) n))
theorem Mg.start {d d' : Array α} {s n : Nat} (h : Bl key d d' s n n) : Mg key d d' s 0 n :=
  ⟨h.size, h.ren, fun a _ h => absurd h (by omega), fun a ha _ hn => h.srt a ha hn⟩
theorem Mg.finish {d d' : Array α} {s i n : Nat} (h : Mg key d d' s i n) (hi : n ≤ i + s) (h2 : 2 * s ∣ i) (hs : 0 < s) : Bl key d d' (2 * s) n n := by
  refine ⟨h.size, h.ren, fun a ha hn => ?_⟩
  by_cases hlt : a < i
  · exact h.done a ha hlt
  · have : s ∣ a := Nat.dvd_trans (Nat.dvd_mul_left s 2) ha
    have e := h.todo a this (by omega) hn
    rwa [show min (a + s) n = min (a + 2 * s) n by omega] at e
theorem Mg.step {d d' d'' : Array α} {s i e n : Nat} (h : Mg key d d' s i n) (h2 : 2 * s ∣ i) (hs : 0 < s) (hsn : i + s < n) (he : e = min (i + 2 * s) n) (hm : MerR key d' d'' i e) : Mg key d d'' s (i + 2 * s) n := by
  refine ⟨hm.size.trans h.size, ?_, fun a ha hai => ?_, fun a ha h1 h3 => ?_⟩
  · refine h.ren.trans ?_
    rw [← sg_app d' (m := i) (Nat.zero_le _) (show i ≤ n by omega), ← sg_app d'' (m := i) (Nat.zero_le _) (show i ≤ n by omega), ← sg_app d' (a := i) (m := e) (by omega) (by omega), ← sg_app d'' (a := i) (m := e) (by omega) (by omega),
      sg_same (d := d'') (d' := d') (a := 0) (b := i) fun j p q => hm.out j (by omega), sg_same (d := d'') (d' := d') (a := e) (b := n) fun j p q => hm.out j (by omega)]
    exact (Ren.refl _).append (hm.ren.append (Ren.refl _))
  · by_cases hlt : a < i
    · have : a + 2 * s ≤ i := by
        obtain ⟨u, rfl⟩ := ha; obtain ⟨v, rfl⟩ := h2
        have : u < v := Nat.lt_of_mul_lt_mul_left hlt
        have := Nat.mul_le_mul_left (2 * s) (show u + 1 ≤ v from this)
        rwa [Nat.mul_add, Nat.mul_one] at this
      rw [sg_same (d := d'') (d' := d') fun j p q => hm.out j (by omega)]
      exact h.done a ha hlt
    · have : a = i := by
        obtain ⟨u, rfl⟩ := ha; obtain ⟨v, rfl⟩ := h2
        have h1 : ¬ u < v := fun h => hlt (by have := Nat.mul_lt_mul_of_pos_left h (show 0 < 2 * s by omega); exact this)
        have h2 : u < v + 1 := by
          have : 2 * s * u < 2 * s * (v + 1) := by rw [Nat.mul_add, Nat.mul_one]; exact hai
          exact Nat.lt_of_mul_lt_mul_left this
        rw [show u = v by omega]
      subst this
      rw [← he]; exact hm.srt
  · rw [sg_same (d := d'') (d' := d') fun j p q => hm.out j (by omega)]
    exact h.todo a ha (by omega) h3
theorem Bl.all {d d' : Array α} {s n : Nat} (h : Bl key d d' s n n) (hs : n ≤ s) : Srt key (sg d' 0 n) := by
  by_cases h0 : n = 0
  · rw [sg_nil _ _ _ (by omega)]; exact Srt.nil
  · have := h.srt 0 (Nat.dvd_zero _) (by omega)
    rwa [show min (0 + s) n = n by omega] at this
theorem Bl.zero (d : Array α) (s n : Nat) : Bl key d d s 0 n := ⟨rfl, Ren.refl _, fun a _ h => absurd h (by omega)⟩
theorem Bl.less {d d' : Array α} {s i j n : Nat} (h : Bl key d d' s i n) (hj : j ≤ i) : Bl key d d' s j n := ⟨h.size, h.ren, fun a ha hi => h.srt a ha (by omega)⟩

/-- the insertion sort's contract, as the blocks want it -/
def Ins (P : Program) (enc : α → List Value) (key : α → Int) (k g : Nat) (cb : Array Value) (blk off cap sz : Nat) (w0 : World) : Prop :=
  ∀ (a b : Nat) (d : Array α) (w : World), a ≤ b → b ≤ sz → d.size = sz → SWK enc k w0 blk off d w →
    Calls P 170 #[.slice (some ⟨blk, off, none⟩) sz cap, .int .i64 a, .int .i64 b, .func (.func g) #[] cb] w fun e w' => e = .returned (.tuple #[]) ∧ ∃ d', MerR key d d' a b ∧ SWK enc k w0 blk off d' w'

set_option maxHeartbeats 8000000 in
set_option maxRecDepth 1000000 in
theorem stable_any {P : Program} {k : Nat} (L : SL P k) (enc : α → List Value) (cf : α → α → Int) (hcf : ∀ x y, cf x y < 0 ↔ key x < key y) (g : Nat) (cb : Array Value) (blk off cap sz : Nat) (d0 d : Array α) (w0 w : World)
    (eg : ∀ args w, (callFunc g args).run P w = .ok (.enter g args) w) (hcmp : CmpLays P g cb enc k cf blk off sz w0)
    (R : RowK enc k w0 blk off d0) (hs : d0.size = sz) (hd : d.size = sz) (S : SWK enc k w0 blk off d w) (hsz : sz < 1152921504606846976) (hins : Ins P enc key k g cb blk off cap sz w0)
    (ei : ∀ args w, (callFunc 170 args).run P w = .ok (.enter 170 args) w) :
    Calls P 164 #[.slice (some ⟨blk, off, none⟩) sz cap, .int .i64 sz, .func (.func g) #[] cb] w fun e w' => e = .returned (.tuple #[]) ∧ ∃ d', d'.size = sz ∧ Srt key (sg d' 0 sz) ∧ Ren key (sg d 0 sz) (sg d' 0 sz) ∧ SWK enc k w0 blk off d' w' := by
  have hsym := sym_all L enc cf hcf g cb blk off cap sz d0 w0 eg hcmp R hs (by omega) (sz + 1)
  obtain ⟨mixed, FS, FR, FM, FG, aE, zE, t0, a0, z0, v0, ti, ai, zi, vi, tb, ab, zb, vb, ts, al, zs, vs, tf, af, zf, vf, tu, au, zu, vu⟩ := L
  have em : ∀ args w, (callFunc 171 args).run P w = .ok (.enter 171 args) w := enters_of FM (by kernel_rfl) rfl
  have S0 : Aside (SWK enc k w0 blk off d w) := S
  have HS : Aside _ := hsym
  have HI : Aside _ := hins
  clear S FS FR FM hcmp hsym hins
  go_enter FG, Try.ntmps164
  go_wp2
  go_loopg [7, 8] (sz + 1) (fun kx s7 s8 wr => ∃ (i : Nat) (dk : Array α), s7 = .int .i64 i ∧ s8 = .int .i64 ((i + 20 : Nat) : Int) ∧ i ≤ sz ∧ sz + 1 - i ≤ kx ∧ dk.size = sz ∧ Aside (SWK enc k w0 blk off dk wr) ∧ Hid (20 ∣ i) ∧ Hid (Bl key d dk 20 i sz))
  case atStart => exact ⟨0, d, rfl, rfl, by omega, by omega, hd, S0, Nat.dvd_zero _, Bl.zero d 20 sz⟩
  case round =>
    clear S0
    obtain ⟨i, dk, rfl, rfl, hi, hkx, hds, S1, HD, HB⟩ := hrel
    by_cases hlt : i + 20 ≤ sz
    · have hltz : ((i + 20 : Nat) : Int) ≤ (sz : Int) := by omega
      have hltz2 : (i : Int) + 20 ≤ (sz : Int) := by omega
      have hcall := HI.out i (i + 20) dk wr (by omega) hlt hds S1.out
      clear S1
      go_wp2_with (go_at_fn 170; refine hcall.mono ?_; rintro e1 w1 ⟨rfl, d1, H1, S2⟩)
      go_roundg (sz + 1 - (i + 20))
      case measure => omega
      case rel =>
        refine ⟨i + 20, d1, by first | rfl | go_num, by first | rfl | go_num | (congr 1; omega), hlt, by omega, H1.size.trans hds, S2, (Nat.dvd_add HD.out (Nat.dvd_refl _)), HB.out.step HD.out (by omega) (by omega) hi H1⟩
    · have hltz : ¬ ((i + 20 : Nat) : Int) ≤ (sz : Int) := by omega
      have hltz2 : ¬ (i : Int) + 20 ≤ (sz : Int) := by omega
      have hcall := HI.out i sz dk wr hi (Nat.le_refl _) hds S1.out
      clear S1
      go_wp2_with (go_at_fn 170; refine hcall.mono ?_; rintro e1 w1 ⟨rfl, d1, H1, S2⟩)
      have HB1 : Hid (Bl key d d1 20 sz sz) := (HB.out.step HD.out (by omega) (by omega) hi H1).less (by omega)
      have hd1 : d1.size = sz := H1.size.trans hds
      have S3 : Aside (SWK enc k w0 blk off d1 w1) := S2
      clear HB HD H1 S2 hds
      go_loopg [6, 7, 8, 9] sz (fun kx s6 s7 s8 s9 wr => ∃ (s : Nat) (dk : Array α), s6 = .int .i64 s ∧ 0 < s ∧ s ≤ 2 * sz + 20 ∧ sz - s ≤ kx ∧ dk.size = sz ∧ Aside (SWK enc k w0 blk off dk wr) ∧ Hid (Bl key d dk s sz sz))
      case atStart => exact ⟨20, d1, rfl, by omega, by omega, by omega, hd1, S3, HB1⟩
      case round =>
        clear S3 HB1 hd1 hcall
        obtain ⟨s, dk, rfl, hs0, hs2, hkx2, hds, S1, HB⟩ := hrel
        by_cases hlt3 : s < sz
        · have hltz3 : (s : Int) < (sz : Int) := by omega
          go_wp2_with fail
          go_loopg [7, 8] (sz + 1) (fun kx s7 s8 wr => ∃ (i : Nat) (dj : Array α), s7 = .int .i64 i ∧ s8 = .int .i64 ((i + 2 * s : Nat) : Int) ∧ i ≤ sz ∧ sz + 1 - i ≤ kx ∧ dj.size = sz ∧ Aside (SWK enc k w0 blk off dj wr) ∧ Hid (2 * s ∣ i) ∧ Hid (Mg key d dj s i sz))
          case atStart => exact ⟨0, dk, rfl, by first | rfl | go_num | (congr 1; omega), by omega, by omega, hds, S1, Nat.dvd_zero _, Mg.start HB.out⟩
          case round =>
            clear S1 HB hds
            obtain ⟨i, dj, rfl, rfl, hi, hkx3, hds, S1, HD, HB⟩ := hrel
            by_cases hlt : i + 2 * s ≤ sz
            · have hltz : ((i + 2 * s : Nat) : Int) ≤ (sz : Int) := by omega
              have hltz2 : (i : Int) + 2 * (s : Int) ≤ (sz : Int) := by omega
              have hds2 : s ∣ i := Nat.dvd_trans (Nat.dvd_mul_left s 2) HD.out
              have hcall := HS.out i (i + s) (i + 2 * s) dj wr (by omega) (by omega) (by omega) hlt hds S1.out (by have := HB.out.todo i hds2 (Nat.le_refl _) (by omega); rwa [show min (i + s) sz = i + s by omega] at this)
                (by have := HB.out.todo (i + s) (Nat.dvd_add hds2 (Nat.dvd_refl _)) (by omega) (by omega); rwa [show min (i + s + s) sz = i + 2 * s by omega] at this) i ((i : Int) + s) ((i : Int) + 2 * s) rfl (by omega) (by omega)
              have HS0 : Hid (s ∣ i) := hds2
              clear S1 hds2
              go_wp2_with (go_at_fn 171; refine hcall.mono ?_; rintro e1 w1 ⟨rfl, d1, H1, S2⟩)
              go_roundg (sz + 1 - (i + 2 * s))
              case measure => omega
              case rel =>
                refine ⟨i + 2 * s, d1, by first | rfl | go_num | (congr 1; omega), by first | rfl | go_num | (congr 1; omega), hlt, by omega, H1.size.trans hds, S2, Nat.dvd_add HD.out (Nat.dvd_refl _), HB.out.step HD.out hs0 (by omega) (by omega) H1⟩
            · have hltz : ¬ ((i + 2 * s : Nat) : Int) ≤ (sz : Int) := by omega
              have hltz2 : ¬ (i : Int) + 2 * (s : Int) ≤ (sz : Int) := by omega
              by_cases hm : i + s < sz
              · have hmz : (i : Int) + (s : Int) < (sz : Int) := by omega
                have hds2 : s ∣ i := Nat.dvd_trans (Nat.dvd_mul_left s 2) HD.out
                have hcall := HS.out i (i + s) sz dj wr (by omega) (by omega) (by omega) (Nat.le_refl _) hds S1.out (by have := HB.out.todo i hds2 (Nat.le_refl _) (by omega); rwa [show min (i + s) sz = i + s by omega] at this)
                  (by have := HB.out.todo (i + s) (Nat.dvd_add hds2 (Nat.dvd_refl _)) (by omega) (by omega); rwa [show min (i + s + s) sz = sz by omega] at this) i ((i : Int) + s) sz rfl (by omega) rfl
                have HS0 : Hid (s ∣ i) := hds2
                clear S1 hds2
                go_wp2_with (go_at_fn 171; refine hcall.mono ?_; rintro e1 w1 ⟨rfl, d1, H1, S2⟩)
                go_roundg (sz - 2 * s)
                case measure => omega
                case rel =>
                  exact ⟨2 * s, d1, by first | rfl | go_num | (congr 1; omega), by omega, by omega, by omega, H1.size.trans hds, S2,
                    (HB.out.step (e := sz) HD.out hs0 hm (by omega) H1).finish (by omega) (Nat.dvd_add HD.out (Nat.dvd_refl _)) hs0⟩
              · have hmz : ¬ (i : Int) + (s : Int) < (sz : Int) := by omega
                go_wp2
                go_roundg (sz - 2 * s)
                case measure => omega
                case rel =>
                  exact ⟨2 * s, dj, by first | rfl | go_num | (congr 1; omega), by omega, by omega, by omega, hds, S1, HB.out.finish (by omega) HD.out hs0⟩
        · have hltz3 : ¬ (s : Int) < (sz : Int) := by omega
          go_wp2
          go_end0
          exact ⟨rfl, dk, hds, HB.out.all (by omega), HB.out.ren, S1.out⟩
end Go.Proofs.Ytdoemgccmjddcaa.So
