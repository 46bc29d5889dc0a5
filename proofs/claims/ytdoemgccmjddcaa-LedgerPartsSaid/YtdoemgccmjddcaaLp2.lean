/- The books of some ids; totals of a part and of the others. -/
import Derived.Test.YtdoemgccmjddcaaLd14
namespace Go.Proofs.Ytdoemgccmjddcaa.Ld
open Go.RowKit Go.Maps Wd Li Sr Sw

def keepF (f : Int → Option Book) (ids : List Int) : Int → Option Book := fun i => if i ∈ ids then f i else none
theorem keep_all {f : Int → Option Book} {zs : List Int} (h : Ids f zs) : keepF f zs = f := by
  funext i
  unfold keepF
  split
  · rfl
  · rename_i hn
    cases hf : f i with
    | none => rfl
    | some b => exact absurd ((h.2 i).2 (by simp [hf])) hn
theorem ids_keep {f : Int → Option Book} {zs : List Int} (ids : List Int) (h : Ids f zs) : Ids (keepF f ids) (zs.filter (fun z => decide (z ∈ ids))) :=
  ⟨h.1.sublist List.filter_sublist, fun id => by
    rw [List.mem_filter, h.2]
    unfold keepF
    by_cases e : id ∈ ids <;> simp [e]⟩
theorem keep_in {f : Int → Option Book} {ids : List Int} {i : Int} (h : i ∈ ids) : keepF f ids i = f i := by unfold keepF; rw [if_pos h]
theorem keep_out {f : Int → Option Book} {ids : List Int} {i : Int} (h : i ∉ ids) : keepF f ids i = none := by unfold keepF; rw [if_neg h]
theorem keep_low {f : Int → Option Book} {m : Int} (hm : 0 ≤ m) (ids : List Int) (h : ∀ i, ((f i).getD Book.zero).low m) (i : Int) : ((keepF f ids i).getD Book.zero).low m := by
  unfold keepF; split
  · exact h i
  · exact zero_low m hm
theorem stat_ext {a b : Stat} (h : a.got = b.got ∧ a.gotB = b.gotB ∧ a.sent = b.sent ∧ a.sentB = b.sentB ∧ a.lost = b.lost ∧ a.wait = b.wait) : a = b := by
  cases a; cases b; simp at h; simp [h]
theorem add_assoc (a b c : Stat) : addS (addS a b) c = addS a (addS b c) := stat_ext (by simp only [addS]; omega)
theorem add_comm (a b : Stat) : addS a b = addS b a := stat_ext (by simp only [addS]; omega)
theorem add_zero (a : Stat) : addS a zeroS = a := stat_ext (by simp only [addS, zeroS]; omega)
theorem fold_add (f : Int → Option Book) : ∀ (zs : List Int) (t : Stat), zs.foldl (fun t id => addS t (statS ((f id).getD Book.zero))) t = addS t (totS f zs)
  | [], t => (add_zero t).symm
  | z :: zs, t => by
    unfold totS
    rw [List.foldl_cons, List.foldl_cons, fold_add f zs, fold_add f zs, add_assoc]
    congr 1
    rw [add_comm zeroS, add_zero]
theorem tot_cons (f : Int → Option Book) (z : Int) (zs : List Int) : totS f (z :: zs) = addS (statS ((f z).getD Book.zero)) (totS f zs) := by
  unfold totS
  rw [List.foldl_cons, fold_add, add_comm zeroS, add_zero]
  rfl
theorem tot_congr {f g : Int → Option Book} : ∀ (zs : List Int), (∀ z ∈ zs, f z = g z) → totS f zs = totS g zs
  | [], _ => rfl
  | z :: zs, h => by rw [tot_cons, tot_cons, h z List.mem_cons_self, tot_congr zs (fun y hy => h y (List.mem_cons_of_mem _ hy))]
theorem tot_split (f : Int → Option Book) (p : Int → Bool) : ∀ zs : List Int, addS (totS f (zs.filter p)) (totS f (zs.filter (fun z => !p z))) = totS f zs
  | [] => add_zero _
  | z :: zs => by
    have ih := tot_split f p zs
    rw [tot_cons, ← ih]
    by_cases h : p z = true
    · rw [List.filter_cons_of_pos h, List.filter_cons_of_neg (by simp [h]), tot_cons, add_assoc]
    · have h' : p z = false := by simpa using h
      rw [List.filter_cons_of_neg h, List.filter_cons_of_pos (by simp [h']), tot_cons, ← add_assoc, add_comm (totS f (zs.filter p)), add_assoc]
/-- the parts' totals -/
theorem parts_tot {f : Int → Option Book} {zs ids a b : List Int} (h : Ids f zs) (ha : Ids (keepF f ids) a) (hb : Ids (keepF f (zs.filter (fun z => !decide (z ∈ ids)))) b) :
    addS (totS (keepF f ids) a) (totS (keepF f (zs.filter (fun z => !decide (z ∈ ids)))) b) = totS f zs := by
  obtain rfl := ids_eq ha (ids_keep ids h)
  obtain rfl := ids_eq hb (ids_keep _ h)
  have e1 : totS (keepF f ids) (zs.filter (fun z => decide (z ∈ ids))) = totS f (zs.filter (fun z => decide (z ∈ ids))) :=
    tot_congr _ (fun z hz => keep_in (by simpa using (List.mem_filter.1 hz).2))
  have e2 : zs.filter (fun z => decide (z ∈ zs.filter (fun z => !decide (z ∈ ids)))) = zs.filter (fun z => !decide (z ∈ ids)) := by
    refine List.filter_congr fun z hz => ?_
    by_cases e : z ∈ ids <;> simp [e, hz]
  rw [e2, e1]
  have e3 : totS (keepF f (zs.filter (fun z => !decide (z ∈ ids)))) (zs.filter (fun z => !decide (z ∈ ids))) = totS f (zs.filter (fun z => !decide (z ∈ ids))) :=
    tot_congr _ (fun z hz => keep_in hz)
  rw [e3]
  exact tot_split f _ zs
end Go.Proofs.Ytdoemgccmjddcaa.Ld
