/- Class hierarchies: rings, levels. -/
import Derived.Test.YtdoemgccmjddcaaTp1
namespace Go.Proofs.Ytdoemgccmjddcaa.Tp
open Go.Proofs.Ytdoemgccmjddcaa.Cl Go.Proofs.Ytdoemgccmjddcaa.So
variable {l : List Cls}

theorem desc_ids : ∀ (d : Nat) (x i : Int), x ∈ ids l → i ∈ desc l d x → i ∈ ids l
  | 0, _, _, _, h => by simp [desc] at h
  | d + 1, x, i, hx, h => by
    unfold desc at h
    rcases List.mem_cons.1 h with rfl | h
    · exact hx
    · obtain ⟨k, hk, hi⟩ := List.mem_flatMap.1 h
      exact desc_ids d k i (kids_ids hk) hi
theorem desc_deep : ∀ (d : Nat) (x i : Int), Deep l d x → i ∈ desc l d x → Deep l d i
  | 0, _, _, h, _ => h.elim
  | d + 1, x, i, h, hi => by
    unfold desc at hi
    rcases List.mem_cons.1 hi with rfl | hi
    · exact h
    · obtain ⟨k, hk, hi⟩ := List.mem_flatMap.1 hi
      exact deep_up d (d + 1) i (by omega) (desc_deep d k i (h k hk) hi)
theorem root_mem {r : Int} (R : Root l r) : r ∈ ids l := by
  obtain ⟨c, hc, rfl, _⟩ := R.root
  exact List.mem_map.2 ⟨c, hc, rfl⟩
theorem ids_pos (G : Good l) {i : Int} (h : i ∈ ids l) : 1 ≤ i ∧ i ≤ 65535 := by
  obtain ⟨c, hc, rfl⟩ := List.mem_map.1 h
  exact ⟨(G.pos c hc).1, (G.pos c hc).2.1⟩
theorem rise_root (G : Good l) {r : Int} (R : Root l r) : rise l 1 r = 0 := by
  obtain ⟨c, hc, rfl, hp⟩ := R.root
  rw [rise_succ, at_is G hc]; exact hp
/-- one step up from one that is there: 0 at the root alone, else one that is there -/
theorem rise_step (G : Good l) {r : Int} (R : Root l r) {i : Int} (h : i ∈ ids l) : (i = r ∧ rise l 1 i = 0) ∨ (rise l 1 i ∈ ids l) := by
  obtain ⟨c, hc, rfl⟩ := List.mem_map.1 h
  have e : rise l 1 c.id = c.parent := by rw [rise_succ, at_is G hc]; rfl
  rw [e]
  by_cases hp : c.parent = 0
  · exact .inl ⟨R.one c hc hp, hp⟩
  · exact .inr (R.par c hc hp)
/-- so many steps up: 0 behind the root, or one that is there -/
theorem rise_cases (G : Good l) {r : Int} (R : Root l r) {i : Int} (h : i ∈ ids l) : ∀ n, (rise l n i ∈ ids l) ∨ ∃ m, m < n ∧ rise l m i = r ∧ rise l n i = 0
  | 0 => .inl h
  | n + 1 => by
    rw [rise_add G]
    rcases rise_cases G R h n with h1 | ⟨m, hm, h1, h2⟩
    · rcases rise_step G R h1 with ⟨h3, h4⟩ | h3
      · exact .inr ⟨n, by omega, h3, h4⟩
      · exact .inl h3
    · rw [h2]; exact .inr ⟨m, by omega, h1, rise_z G 1⟩
theorem root_deep64 (G : Good l) {r : Int} (R : Root l r) (hl : l.length ≤ 64) : Deep l 64 r := deep_up _ _ _ hl (root_deep G R)
theorem ring_iff (G : Good l) {r : Int} (R : Root l r) (hl : l.length ≤ 64) : (∀ i ∈ ids l, rise l 65 i = 0) ↔ ∀ i ∈ ids l, i ∈ desc l 64 r := by
  have hD := root_deep64 G R hl
  constructor
  · intro h i hi
    rcases rise_cases G R hi 65 with h1 | ⟨m, hm, h1, _⟩
    · rw [h i hi] at h1
      have := ids_pos G h1
      omega
    · have := rise_desc G m r i hi h1 (by have := ids_pos G (root_mem R); omega) 65 hm
      rwa [desc_stable 64 65 r (by omega) hD] at this
  · intro h i hi
    obtain ⟨m, hm, he⟩ := desc_rise G 64 r i (h i hi)
    obtain ⟨k, hk⟩ : ∃ k, 65 = m + (1 + k) := ⟨64 - m, by omega⟩
    rw [hk, rise_add G, he, rise_add G, rise_root G R, rise_z G]
def level (l : List Cls) (id : Int) : Int := lev l 64 id
theorem fold_max_ge : ∀ (ks : List Int) (f : Int → Int) (n : Int), n ≤ ks.foldl (fun n c => max n (f c)) n
  | [], _, n => Int.le_refl n
  | k :: ks, f, n => by rw [List.foldl_cons]; exact Int.le_trans (by omega) (fold_max_ge ks f _)
theorem fold_max_le {f : Int → Int} {m : Int} : ∀ (ks : List Int) (n : Int), n ≤ m → (∀ c ∈ ks, f c ≤ m) → ks.foldl (fun n c => max n (f c)) n ≤ m
  | [], n, h, _ => h
  | k :: ks, n, h, hk => by
    rw [List.foldl_cons]
    exact fold_max_le ks _ (by have := hk k List.mem_cons_self; omega) (fun c hc => hk c (List.mem_cons_of_mem _ hc))
theorem lev_bd : ∀ (d : Nat) (id : Int), 0 ≤ lev l d id ∧ lev l d id ≤ d
  | 0, _ => ⟨Int.le_refl 0, Int.le_refl 0⟩
  | d + 1, id => by
    unfold lev
    have h1 := fold_max_ge (kids l id) (lev l d) 0
    have h2 := fold_max_le (f := lev l d) (m := d) (kids l id) 0 (by omega) (fun c _ => (lev_bd d c).2)
    omega
theorem level_bd (id : Int) : 0 ≤ level l id ∧ level l id ≤ 64 := lev_bd 64 id
/-- the greatest level of the first k children -/
def most (l : List Cls) (ks : List Int) : Int := ks.foldl (fun n c => max n (level l c)) 0
theorem most_bd (ks : List Int) : 0 ≤ most l ks ∧ most l ks ≤ 64 := ⟨fold_max_ge _ _ _, fold_max_le _ _ (by omega) (fun c _ => (level_bd c).2)⟩
theorem most_succ {ks : List Int} {k : Nat} {c : Int} (h : ks[k]? = some c) : most l (ks.take (k + 1)) = max (most l (ks.take k)) (level l c) := by
  unfold most; rw [List.take_add_one, h, List.foldl_append]; rfl
theorem level_eq {d : Nat} {id : Int} (hd : d < 64) (h : Deep l (d + 1) id) : level l id = most l (kids l id) + 1 := by
  unfold level most
  show (kids l id).foldl (fun n c => max n (lev l 63 c)) 0 + 1 = _
  rw [fold_congr _ _ (fun c hc => ?_)]
  show lev l 63 c = lev l 64 c
  rw [lev_stable d 63 c (by omega) (h c hc), lev_stable d 64 c (by omega) (h c hc)]
theorem level_eq64 {id : Int} (h : Deep l 64 id) : level l id = most l (kids l id) + 1 := level_eq (d := 63) (by omega) h

/-- the levels that are noted -/
def notes (l : List Cls) (f : Int → Option Int) (S : List Int) : Int → Option Int := fun i => if i ∈ S then some (level l i) else f i
theorem notes_nil (f : Int → Option Int) : notes l f [] = f := by funext i; simp [notes]
theorem notes_app (f : Int → Option Int) (S S' : List Int) : notes l (notes l f S) S' = notes l f (S ++ S') := by
  funext i
  unfold notes
  by_cases h : i ∈ S' <;> by_cases h' : i ∈ S <;> simp [h, h']
theorem notes_one (f : Int → Option Int) (S : List Int) (id : Int) : (fun i => if i = id then some (level l id) else notes l f S i) = notes l f (id :: S) := by
  funext i
  unfold notes
  by_cases h : i = id
  · subst h; simp
  · simp [h]
/-- how many are noted -/
theorem count_lt (G : Good l) {ks S : List Int} (hk : ks.Nodup) (hm : ∀ i, i ∈ ks ↔ i ∈ S) (hS : ∀ i ∈ S, i ∈ ids l) : ks.length < l.length ↔ ¬ ∀ i ∈ ids l, i ∈ S := by
  have hlen : (ids l).length = l.length := List.length_map ..
  have h1 : ks.length ≤ (ids l).length := nodup_le hk (fun i hi => hS i ((hm i).1 hi))
  constructor
  · intro h hall
    have h2 : (ids l).length ≤ ks.length := nodup_le G.nodup (fun i hi => (hm i).2 (hall i hi))
    omega
  · intro h
    refine Classical.byContradiction fun hn => h fun i hi => Classical.byContradiction fun hiS => ?_
    have h3 : (i :: ks).Nodup := List.nodup_cons.2 ⟨fun h => hiS ((hm i).1 h), hk⟩
    have h4 := nodup_le h3 (l := ids l) (fun j hj => by
      rcases List.mem_cons.1 hj with rfl | hj
      · exact hi
      · exact hS j ((hm j).1 hj))
    simp at h4
    omega
end Go.Proofs.Ytdoemgccmjddcaa.Tp
