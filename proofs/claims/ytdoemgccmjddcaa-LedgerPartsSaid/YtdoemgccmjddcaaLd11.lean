/- Totals. -/
import Derived.Test.YtdoemgccmjddcaaLd10
namespace Go.Proofs.Ytdoemgccmjddcaa.Ld
open Go.RowKit Go.Maps Wd Li Sr Sw

def addS (a b : Stat) : Stat := ⟨a.got + b.got, a.gotB + b.gotB, a.sent + b.sent, a.sentB + b.sentB, a.lost + b.lost, a.wait + b.wait⟩
def zeroS : Stat := ⟨0, 0, 0, 0, 0, 0⟩
def totS (f : Int → Option Book) (zs : List Int) : Stat := zs.foldl (fun t id => addS t (statS ((f id).getD Book.zero))) zeroS
theorem tot_succ {f : Int → Option Book} {zs : List Int} {k : Nat} {id : Int} (h : zs[k]? = some id) : totS f (zs.take (k + 1)) = addS (totS f (zs.take k)) (statS ((f id).getD Book.zero)) := by
  unfold totS; rw [List.take_add_one, h, List.foldl_append]; rfl
def Stat.low (s : Stat) (m : Int) : Prop := 0 ≤ s.got ∧ s.got ≤ m ∧ 0 ≤ s.gotB ∧ s.gotB ≤ m ∧ 0 ≤ s.sent ∧ s.sent ≤ m ∧ 0 ≤ s.sentB ∧ s.sentB ≤ m ∧ 0 ≤ s.lost ∧ s.lost ≤ m ∧ 0 ≤ s.wait ∧ s.wait ≤ m
theorem stat_low {b : Book} (h : b.low 2147483648) : (statS b).low 17179869184 := by
  unfold Book.low at h
  unfold Stat.low statS lostS
  simp only
  omega
theorem tot_low {f : Int → Option Book} (h : ∀ id, ((f id).getD Book.zero).low 2147483648) : ∀ zs : List Int, (totS f zs).low (17179869184 * zs.length) := by
  have key : ∀ (zs : List Int) (t : Stat) (m : Int), t.low m → (zs.foldl (fun t id => addS t (statS ((f id).getD Book.zero))) t).low (m + 17179869184 * zs.length) := by
    intro zs
    induction zs with
    | nil => intro t m ht; simpa using ht
    | cons id zs ih =>
      intro t m ht
      rw [List.foldl_cons, List.length_cons]
      have h1 := stat_low (h id)
      have h2 : (addS t (statS ((f id).getD Book.zero))).low (m + 17179869184) := by
        unfold Stat.low addS at *
        simp only at *
        omega
      have h3 := ih _ _ h2
      unfold Stat.low at *
      push_cast
      omega
  intro zs
  have := key zs zeroS 0 (by simp [Stat.low, zeroS])
  simpa [totS] using this
theorem intl_cell {w : World} {base : Nat} {e : TypeId} {B : Option Addr} {d : Nat} {zs : List Int} {k : Nat} {id : Int} (h : w.ownsRow base e 1 (.slice B zs.length d) zs.length (St.I zs)) (hk : zs[k]? = some id) : ∃ g, B = some ⟨g, 0, none⟩ ∧ g < w.heap.size ∧ base ≤ g ∧ w.cell? ⟨g, k, none⟩ = some (.int .i64 id) := by
  have hkl := (List.getElem?_eq_some_iff.1 hk).1
  obtain ⟨g, cap, hv, hbg, hglt⟩ := h.form (by omega)
  obtain ⟨rfl, _, rfl⟩ := Value.slice.inj hv
  have hc := h.cells (g := g) rfl k (.int .i64 id) (by simp [St.I, hk])
  rw [add_zero_at] at hc
  exact ⟨g, rfl, hglt, hbg, hc⟩
def TotOk (f : Int → Option Book) (w : World) (e : Ending) (w' : World) : Prop := ∃ zs, Ids f zs ∧ e = .returned (totS f zs).agg ∧ Below w.heap.size w w'
end Go.Proofs.Ytdoemgccmjddcaa.Ld
