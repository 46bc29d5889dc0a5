/- lift. -/
import Derived.Test.YtpchhfhmopmagaaGreatTr1
set_option linter.unusedVariables false
set_option linter.unusedSimpArgs false
namespace Go.Proofs.YtpchhfhmopmagaaGreat.Tr
open Go.RowKit Go.Maps Go.Proofs.YtpchhfhmopmagaaGreat.Wd Go.Proofs.YtpchhfhmopmagaaGreat.Li Go.Proofs.YtpchhfhmopmagaaGreat.Mp Go.Proofs.YtpchhfhmopmagaaGreat.Tp Go.Proofs.YtpchhfhmopmagaaGreat.Cl

abbrev Lev (w : World) (V n : Nat) (f : Int → Option Int) : Prop := At iv ie 0 Tryz.prog 3 w V n f
def LiftOk (l : List Cls) (d : Nat) (id : Int) (V : Nat) (f : Int → Option Int) (w : World) (e : Ending) (w' : World) : Prop := e = .returned (.int .i64 (level l id)) ∧ Lev w' V 64 (notes l f (desc l d id)) ∧ w.grownBy w' (some V)

set_option maxRecDepth 20000 in
set_option maxHeartbeats 4000000 in
theorem lift_c (l : List Cls) (G : Tp.Good l) (hl : l.length ≤ 64) (T C K V base nk : Nat) (A : Option Addr) (m c : Nat) (r : Int) (kf : Int → Option Sv) (hTV : T ≠ V) (hKV : V ≠ K) (hVb : V < base) : ∀ (d : Nat) (id : Int), d ≤ 64 → Deep l d id → id ∈ ids l → ∀ (w : World) (f : Int → Option Int),
    w.heap[T]? = some (.cells #[.slice A m c, .map (some C), .map (some K), .map (some V), .int .i64 r] 135 (0, 0)) → Kid w base (kids l) K nk kf → Lev w V 64 f → (∀ i, (f i).isSome = true → i ∈ ids l) →
    Calls Tryz.prog 129 #[.pointer (some ⟨T, 0, none⟩), .int .i64 id] w (LiftOk l d id V f w) := by
  intro d
  induction d with
  | zero => intro id _ h; exact h.elim
  | succ d ih =>
    intro id hd hD hid w f hT hK hV hf
    have hwf := wf_id (i := id) (by have := ids_pos G hid; omega)
    have hlook := hK.map.look sv_kind Tryz.underlying3 Tryz.underlying132 (zslice w) hwf
    have hrow := hK.row id
    generalize hsv : (kf id).getD Sv.nil = sv at *
    obtain ⟨g, n, cc⟩ := sv
    unfold Sv.val at hlook hrow
    simp only at hlook hrow
    obtain rfl := row_len hrow
    generalize hA' : Option.map (fun b => (⟨b, 0, none⟩ : Addr)) g = A' at *
    have hklen : (kids l id).length ≤ 64 := by
      unfold kids; rw [List.length_map]
      exact Nat.le_trans (List.length_filter_le _ _) (by rw [So.sortC_len]; exact hl)
    have hlev := level_eq (l := l) (d := d) (by omega) hD
    have eg : ∀ args w, (callFunc 129 args).run Tryz.prog w = .ok (.enter 129 args) w := enters_of Tryz.func129 (by kernel_rfl) rfl
    have HIH := Lib.hid ih; have HD := Lib.hid hD; have HK := Lib.hid hK; have HV := Lib.hid hV; have HF := Lib.hid hf; have HT := Lib.hid hT; have HR := Lib.hid hrow; have HL := Lib.hid hlev; have EG := Lib.hid eg; have HID := Lib.hid hid
    have c2 := cells_at hT 2 _ rfl
    have hltT := lt_get hT
    clear ih hD hK hV hf hT hrow hlev eg hsv hA' hid
    go_enter Tryz.func129, Tryz.ntmps129
    go_wp2_with fail
    go_loopg [6, 18] (kids l id).length (fun kx s6 s18 wr => ∃ j : Nat, s18 = .int .i64 j ∧ s6 = .int .i64 (most l ((kids l id).take j)) ∧ j ≤ (kids l id).length ∧ (kids l id).length - j ≤ kx ∧ Hid (Lev wr V 64 (notes l f (((kids l id).take j).flatMap (desc l d)))) ∧ Hid (w.grownBy wr (some V)))
    case atStart => exact ⟨0, rfl, rfl, by omega, by omega, Lib.hid (by simpa [notes_nil] using HV.out), Lib.hid ⟨rfl, rfl, rfl, Nat.le_refl _, fun _ _ _ => rfl⟩⟩
    case round =>
      obtain ⟨j, rfl, rfl, hj, hjx, HLV, HG⟩ := hrel
      clear hlook c2
      by_cases hlt : j < (kids l id).length
      · have hltz : (j : Int) < ((kids l id).length : Int) := by omega
        obtain ⟨k, hk⟩ : ∃ k, (kids l id)[j]? = some k := ⟨_, List.getElem?_eq_getElem hlt⟩
        have HKr := Lib.hid (HK.out.grown HG.out hVb hKV)
        have HTr := Lib.hid ((HG.out.block T hltT (fun e => hTV (by injection e))).trans HT.out)
        have HRr := Lib.hid (HR.out.kept HG.out (.inr (fun e => by have := (HR.out.lt V e).1; omega)))
        obtain ⟨g2, rfl, hg2, hgb, _, hcg⟩ := row_cell HRr.out hk
        have hkm : k ∈ kids l id := List.mem_of_getElem? hk
        have hms := Lib.hid (most_succ (l := l) hk)
        have hmb := most_bd (l := l) ((kids l id).take j)
        have hlb := level_bd (l := l) k
        have HKJ := Lib.hid hk
        have hcall := HIH.out k (by omega) (HD.out k hkm) (kids_ids hkm) wr _ HTr.out HKr.out HLV.out (fun i hi => by
          unfold notes at hi
          split at hi
          · rename_i hm
            obtain ⟨q, hq, hiq⟩ := List.mem_flatMap.1 hm
            exact desc_ids d q i (kids_ids (List.mem_of_mem_take hq)) hiq
          · exact HF.out i hi)
        have HC := Lib.hid hcall
        clear hcall hk hkm
        generalize hmx : most l ((kids l id).take j) = mx at *
        generalize hlv : level l k = lv at *
        have HMX := Lib.hid hmx; have HLVK := Lib.hid hlv
        clear hmx hlv
        have HC2 := Lib.hid HC.out
        unfold LiftOk at HC2
        rw [HLVK.out] at HC2
        go_upto_region 7 with (first
          | (refine wpList_value2 (by rfl) _ _ _ (by rfl) 129 #[.pointer (some ⟨T, 0, none⟩)] #[] (by rfl) #[.pointer (some ⟨T, 0, none⟩), .int .i64 k] (by go_simp) EG.out ?_; refine (HC2.out).mono ?_; rintro e w2 ⟨rfl, hl2, hg2⟩; have HL2 := Lib.hid hl2; have HG2 := Lib.hid hg2; clear hl2 hg2; refine ⟨_, rfl, ?_⟩))
        have hfl : ((kids l id).take (j + 1)).flatMap (desc l d) = ((kids l id).take j).flatMap (desc l d) ++ desc l d k := by
          rw [List.take_add_one, HKJ.out, List.flatMap_append]; simp
        have HFL := Lib.hid hfl
        clear hfl
        go_wp2_with fail
        all_goals
          go_roundg ((kids l id).length - (j + 1))
          case measure => omega
          case rel => exact ⟨j + 1, by go_num, by rw [hms.out], by omega, by omega, Lib.hid (by have := HL2.out; rw [notes_app] at this; rw [HFL.out]; exact this), Lib.hid (HG.out.trans HG2.out)⟩
      · have hltz : ¬ (j : Int) < ((kids l id).length : Int) := by omega
        obtain rfl : j = (kids l id).length := by omega
        rw [List.take_length] at HLV
        rw [List.take_length]
        have HTr := Lib.hid ((HG.out.block T hltT (fun e => hTV (by injection e))).trans HT.out)
        have c3 := cells_at HTr.out 3 _ rfl
        have hmb := most_bd (l := l) (kids l id)
        have HLe := HL.out
        generalize hmx : most l (kids l id) = mx at *
        generalize hlvv : level l id = lv at *
        subst HLe
        have HLVV := Lib.hid hlvv
        clear hmx hlvv
        go_wp2_with (first
          | (refine wpList_put int_kind (by rfl) _ _ _ 133 (by rfl) 3 3 Tryz.underlying3 Tryz.underlying133 0 V 64 _ _ (by rfl) HLV.out (by omega) id (mx + 1) (by rfl) (by rfl) hwf ?_; intro w2 hl2 hg2; have HL2 := Lib.hid hl2; have HG2 := Lib.hid hg2; clear hl2 hg2))
        go_ret
        refine ⟨by rw [HLVV.out]; try rfl, ?_, HG.out.trans HG2.out⟩
        have h1 := HL2.out
        rw [← HLVV.out] at h1
        rw [notes_one] at h1
        have h2 := h1.tight Tryz.underlying3 (ids l) (fun i hi => by
          unfold notes at hi
          split at hi
          · rename_i hm
            rcases List.mem_cons.1 hm with rfl | hm
            · exact HID.out
            · obtain ⟨q, hq, hiq⟩ := List.mem_flatMap.1 hm
              exact desc_ids d q i (kids_ids hq) hiq
          · exact HF.out i hi)
        exact h2.more (by unfold ids; rw [List.length_map]; exact hl)
end Go.Proofs.YtpchhfhmopmagaaGreat.Tr
