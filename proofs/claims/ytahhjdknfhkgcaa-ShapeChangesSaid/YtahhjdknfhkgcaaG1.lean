import Derived.Calls
import Derived.Laws.World
import Derived.Laws.Sem
import Derived.Laws.Small
import Derived.Laws.StructEq
import Derived.RangeFuncSeq

set_option linter.unusedSimpArgs false
set_option linter.unusedVariables false

namespace Go.Aff.L31
structure Nd where
  num : Int
  dir : Bool
  ch : List Int
section
variable (G : List Nd)
def fnd (n : Int) : Option Nd := G.find? fun x => decide (x.num = n)
def kids (n : Int) : List Int := match fnd G n with
  | some x => x.ch
  | none => []
def isD (n : Int) : Bool := match fnd G n with
  | some x => x.dir
  | none => false
def U : Nat → Int → List Int
  | 0, _ => []
  | r + 1, a => (kids G a).flatMap fun c => c :: U r c
def Deep : Nat → Int → Prop
  | 0, a => kids G a = []
  | r + 1, a => ∀ c ∈ kids G a, Deep r c
def levF (a : Int) : Nat → List Int
  | 0 => [a]
  | d + 1 => (levF a d).flatMap (kids G)
def Cond (r : Nat) (a : Int) (l : Int → Nat) : Prop := Deep G r a ∧ ∀ c ∈ U G r a, c ≠ 1 ∧ (fnd G c).isSome ∧ (isD G c = true → l c + (U G r a).count c ≤ 1)
end
section
variable {G : List Nd}
theorem levF_succ : ∀ (d : Nat) (a : Int), levF G a (d + 1) = (kids G a).flatMap fun c => levF G c d
  | 0, a => by simp [levF]
  | d + 1, a => by
    rw [levF, levF_succ d a, List.flatMap_assoc]
    rfl
theorem deep_lev : ∀ (r : Nat) (a : Int), Deep G r a ↔ levF G a (r + 1) = []
  | 0, a => by simp [Deep, levF]
  | r + 1, a => by
    rw [levF_succ, List.flatMap_eq_nil_iff]
    exact ⟨fun h c hc => (deep_lev r c).1 (h c hc), fun h c hc => (deep_lev r c).2 (h c hc)⟩
def cnts (f : Nat → Nat) : Nat → Nat
  | 0 => 0
  | r + 1 => cnts f r + f (r + 1)
theorem cnts_congr {f g : Nat → Nat} (h : ∀ d, f d = g d) : ∀ r, cnts f r = cnts g r
  | 0 => rfl
  | r + 1 => by rw [cnts, cnts, cnts_congr h r, h]
theorem cnts_zero : ∀ r, cnts (fun _ => 0) r = 0
  | 0 => rfl
  | r + 1 => by rw [cnts, cnts_zero r]
theorem cnts_add {f g : Nat → Nat} : ∀ r, cnts (fun d => f d + g d) r = cnts f r + cnts g r
  | 0 => rfl
  | r + 1 => by rw [cnts, cnts, cnts, cnts_add r]; omega
theorem cnts_shift {f : Nat → Nat} : ∀ r, cnts f (r + 1) = f 1 + cnts (fun d => f (d + 1)) r
  | 0 => by simp [cnts]
  | r + 1 => by rw [cnts, cnts_shift r, cnts]; omega
theorem u_count (x : Int) : ∀ (r : Nat) (a : Int), (U G r a).count x = cnts (fun d => (levF G a d).count x) r
  | 0, a => by simp [U, cnts]
  | r + 1, a => by
    have key : ∀ l : List Int, (l.flatMap fun c => c :: U G r c).count x = l.count x + cnts (fun d => (l.flatMap fun c => levF G c d).count x) r := by
      intro l
      induction l with
      | nil => simp [cnts_zero]
      | cons c l ih =>
        rw [List.flatMap_cons, List.count_append, ih, List.count_cons, u_count x r c, List.count_cons]
        have e : cnts (fun d => ((c :: l).flatMap fun c => levF G c d).count x) r = cnts (fun d => (levF G c d).count x) r + cnts (fun d => (l.flatMap fun c => levF G c d).count x) r := by
          rw [← cnts_add]
          exact cnts_congr (fun d => by rw [List.flatMap_cons, List.count_append]) r
        rw [e]; omega
    rw [U, key, cnts_shift]
    have e1 : (levF G a 1) = kids G a := by simp [levF]
    rw [e1]
    congr 1
    exact cnts_congr (fun d => by rw [levF_succ]) r
end
abbrev En := Nat × Int
section
variable (G : List Nd)
def kidsE (e : En) : List En := (kids G e.2).map fun c => (e.1 + 1, c)
def Told (E : List En) (i : Nat) : Prop := E = (0, 1) :: (E.take i).flatMap (kidsE G)
def lvl (d : Nat) (E : List En) : List Int := (E.filter fun e => decide (e.1 = d)).map (·.2)
end
section
variable {G : List Nd}
theorem lvl_app {d : Nat} {A B : List En} : lvl d (A ++ B) = lvl d A ++ lvl d B := by simp [lvl]
theorem lvl_kids {d : Nat} (e : En) : lvl (d + 1) (kidsE G e) = if e.1 = d then kids G e.2 else [] := by
  unfold lvl kidsE
  split
  · rename_i h
    subst h
    rw [List.filter_eq_self.2 (by intro x hx; obtain ⟨c, _, rfl⟩ := List.mem_map.1 hx; simp), List.map_map]
    simp [Function.comp_def]
  · rename_i h
    rw [List.filter_eq_nil_iff.2 (by intro x hx; obtain ⟨c, _, rfl⟩ := List.mem_map.1 hx; simp; omega)]
    rfl
theorem lvl0_kids (e : En) : lvl 0 (kidsE G e) = [] := by
  unfold lvl kidsE
  rw [List.filter_eq_nil_iff.2 (by intro x hx; obtain ⟨c, _, rfl⟩ := List.mem_map.1 hx; simp)]
  rfl
theorem lvl_flat {d : Nat} : ∀ (A : List En), lvl (d + 1) (A.flatMap (kidsE G)) = (lvl d A).flatMap (kids G)
  | [] => rfl
  | e :: A => by
    rw [List.flatMap_cons, lvl_app, lvl_kids, lvl_flat A]
    by_cases h : e.1 = d
    · simp [lvl, h]
    · simp [lvl, h]
theorem lvl0_flat : ∀ (A : List En), lvl 0 (A.flatMap (kidsE G)) = []
  | [] => rfl
  | e :: A => by rw [List.flatMap_cons, lvl_app, lvl0_kids, lvl0_flat A]; rfl
theorem told_lvl0 {E : List En} {i : Nat} (h : Told G E i) : lvl 0 E = [1] := by
  unfold Told at h
  rw [h]
  have : lvl 0 ((0, 1) :: (E.take i).flatMap (kidsE G)) = [1] ++ lvl 0 ((E.take i).flatMap (kidsE G)) := by simp [lvl]
  rw [this, lvl0_flat]; rfl
theorem told_lvl {E : List En} {i d : Nat} (h : Told G E i) : lvl (d + 1) E = (lvl d (E.take i)).flatMap (kids G) := by
  have e : lvl (d + 1) E = lvl (d + 1) ((0, 1) :: (E.take i).flatMap (kidsE G)) := congrArg _ h
  rw [e, ← lvl_flat]
  simp [lvl]
theorem flat_sub {A B : List Int} (h : A.Sublist B) (f : Int → List Int) : (A.flatMap f).Sublist (B.flatMap f) := by
  induction h with
  | slnil => exact List.Sublist.slnil
  | cons a _ ih => rw [List.flatMap_cons]; exact ih.trans (List.sublist_append_right ..)
  | cons_cons a _ ih => rw [List.flatMap_cons, List.flatMap_cons]; exact (List.Sublist.refl _).append ih
theorem lvl_sub {d : Nat} {A B : List En} (h : A.Sublist B) : (lvl d A).Sublist (lvl d B) := (h.filter _).map _
theorem told_sub {E : List En} {i : Nat} (h : Told G E i) : ∀ d, (lvl d E).Sublist (levF G 1 d)
  | 0 => by rw [told_lvl0 h]; exact List.Sublist.refl _
  | d + 1 => by
    rw [told_lvl h, levF]
    exact flat_sub ((lvl_sub (List.take_sublist ..)).trans (told_sub h d)) _
theorem told_all {E : List En} (h : Told G E E.length) : ∀ d, lvl d E = levF G 1 d
  | 0 => told_lvl0 h
  | d + 1 => by rw [told_lvl h, List.take_length, told_all h d, levF]
theorem count_lvls (x : Int) : ∀ (E : List En), (∀ e ∈ E, 1 ≤ e.1 ∧ e.1 ≤ 7) → (E.map (·.2)).count x = cnts (fun d => (lvl d E).count x) 7
  | [], _ => by simp [lvl, cnts]
  | e :: E, h => by
    have he := h e (List.mem_cons_self ..)
    have ih := count_lvls x E fun y hy => h y (List.mem_cons_of_mem _ hy)
    have key : ∀ r, cnts (fun d => (lvl d (e :: E)).count x) r = (if 1 ≤ e.1 ∧ e.1 ≤ r then [e.2].count x else 0) + cnts (fun d => (lvl d E).count x) r := by
      intro r
      induction r with
      | zero => rw [if_neg (by omega)]; rfl
      | succ r ihr =>
        have el : (lvl (r + 1) (e :: E)).count x = (if e.1 = r + 1 then [e.2].count x else 0) + (lvl (r + 1) E).count x := by
          by_cases h : e.1 = r + 1
          · simp [lvl, h, List.count_cons]; omega
          · simp [lvl, h]
        rw [cnts, ihr, el, cnts]
        by_cases h1 : e.1 = r + 1
        · rw [if_neg (by omega), if_pos h1, if_pos (by omega)]; omega
        · by_cases h2 : 1 ≤ e.1 ∧ e.1 ≤ r
          · rw [if_pos h2, if_neg h1, if_pos (by omega)]; omega
          · rw [if_neg h2, if_neg h1, if_neg (by omega)]; omega
    rw [key 7, if_pos he, List.map_cons, List.count_cons, ih, List.count_cons]
    simp; omega
def Fit (G : List Nd) (E : List En) (i : Nat) : Prop := ∃ e, E[i]? = some e ∧ (fnd G e.2).isSome ∧ (0 < i → e.2 ≠ 1) ∧ e.1 ≤ 6 ∧ (isD G e.2 = true → ∀ k < i, ∀ y, E[k]? = some y → y.2 ≠ e.2)
theorem told_depth {E : List En} {i : Nat} (h : Told G E i) (hf : ∀ k < i, Fit G E k) (hi : i ≤ E.length) : ∀ j e, 0 < j → E[j]? = some e → 1 ≤ e.1 ∧ e.1 ≤ 7 := by
  intro j e hj he
  have hm : e ∈ (E.take i).flatMap (kidsE G) := by
    unfold Told at h
    rw [h] at he
    obtain ⟨k, rfl⟩ : ∃ k, j = k + 1 := ⟨j - 1, by omega⟩
    rw [List.getElem?_cons_succ] at he
    exact List.mem_of_getElem? he
  obtain ⟨p, hp, hpe⟩ := List.mem_flatMap.1 hm
  obtain ⟨c, _, rfl⟩ := List.mem_map.1 hpe
  obtain ⟨k, hk⟩ := List.mem_iff_getElem?.1 hp
  rw [List.getElem?_take] at hk
  split at hk
  · rename_i hki
    obtain ⟨e', he', _, _, h6, _⟩ := hf k hki
    rw [hk] at he'; cases he'
    show 1 ≤ p.1 + 1 ∧ p.1 + 1 ≤ 7
    omega
  · cases hk
theorem told_head {E : List En} {i : Nat} (h : Told G E i) : E[0]? = some (0, 1) := by unfold Told at h; rw [h]; rfl
theorem told_count {E : List En} {i : Nat} (h : Told G E i) (hf : ∀ k < i, Fit G E k) (hi : i ≤ E.length) (x : Int) : ((E.drop 1).map (·.2)).count x ≤ cnts (fun d => (levF G 1 d).count x) 7 := by
  have hd := told_depth h hf hi
  have e := count_lvls x (E.drop 1) (fun y hy => by
    obtain ⟨k, hk⟩ := List.mem_iff_getElem?.1 hy
    rw [List.getElem?_drop] at hk
    exact hd (1 + k) y (by omega) hk)
  rw [e]
  have mono : ∀ (f g : Nat → Nat), (∀ d, f d ≤ g d) → ∀ r, cnts f r ≤ cnts g r := fun f g hfg r => by
    induction r with
    | zero => exact Nat.le_refl _
    | succ r ih => rw [cnts, cnts]; have := hfg (r + 1); omega
  exact mono _ _ (fun d => ((lvl_sub (List.drop_sublist ..)).trans (told_sub h d)).count_le x) 7
theorem two_count {l : List Int} {x : Int} {a b : Nat} (hab : a < b) (ha : l[a]? = some x) (hb : l[b]? = some x) : 2 ≤ l.count x := by
  have e : l = l.take b ++ l.drop b := (List.take_append_drop ..).symm
  rw [e, List.count_append]
  have h1 : 0 < (l.take b).count x := List.count_pos_iff.2 (List.mem_of_getElem? (i := a) (by rw [List.getElem?_take, if_pos hab]; exact ha))
  have h2 : 0 < (l.drop b).count x := List.count_pos_iff.2 (List.mem_of_getElem? (i := 0) (by rw [List.getElem?_drop]; exact hb))
  omega
theorem two_places : ∀ {l : List Int} {x : Int}, 2 ≤ l.count x → ∃ a b : Nat, a < b ∧ l[a]? = some x ∧ l[b]? = some x
  | [], x, h => by simp at h
  | y :: l, x, h => by
    rw [List.count_cons] at h
    by_cases e : y = x
    · subst e
      have : 0 < l.count y := by simp only [BEq.rfl, if_true] at h; omega
      obtain ⟨b, hb⟩ := List.mem_iff_getElem?.1 (List.count_pos_iff.1 this)
      exact ⟨0, b + 1, by omega, rfl, by simpa using hb⟩
    · have : 2 ≤ l.count x := by simp [e] at h; exact h
      obtain ⟨a, b, hab, ha, hb⟩ := two_places this
      exact ⟨a + 1, b + 1, by omega, by simpa using ha, by simpa using hb⟩
theorem unfit {E : List En} {i : Nat} (h : Told G E i) (hf : ∀ k < i, Fit G E k) (hi : i < E.length) (h1 : (fnd G 1).isSome) (hn : ¬ Fit G E i) : ¬ Cond G 6 1 (fun _ => 0) := by
  intro ⟨hdp, hc⟩
  have hlv := (deep_lev 6 1).1 hdp
  have h7 : ∀ x, cnts (fun d => (levF G 1 d).count x) 7 = (U G 6 1).count x := fun x => by
    rw [u_count, cnts, hlv]; simp
  have he : E[i]? = some E[i] := List.getElem?_eq_getElem hi
  generalize E[i] = e at he
  by_cases h0 : i = 0
  · subst h0
    apply hn
    have := told_head h
    rw [he] at this; cases this
    exact ⟨(0, 1), he, h1, fun e => absurd e (by omega), by decide, fun _ k hk => absurd hk (by omega)⟩
  · have hd := told_depth h hf (by omega) i e (by omega) he
    have hin : 0 < ((E.drop 1).map (·.2)).count e.2 := by
      refine List.count_pos_iff.2 (List.mem_map.2 ⟨e, ?_, rfl⟩)
      exact List.mem_of_getElem? (i := i - 1) (by rw [List.getElem?_drop, show 1 + (i - 1) = i by omega]; exact he)
    have hle := told_count h hf (Nat.le_of_lt hi) e.2
    rw [h7] at hle
    have hU : e.2 ∈ U G 6 1 := List.count_pos_iff.1 (by omega)
    obtain ⟨g1, g2, g3⟩ := hc _ hU
    refine hn ⟨e, he, g2, fun _ => g1, ?_, fun hD k hk y hy ey => ?_⟩
    · rcases Nat.lt_or_ge e.1 7 with h6 | h6
      · omega
      · exfalso
        have hm : e.2 ∈ lvl 7 E := List.mem_map.2 ⟨e, List.mem_filter.2 ⟨List.mem_of_getElem? he, by simp; omega⟩, rfl⟩
        have := (told_sub h 7).subset hm
        rw [hlv] at this; simp at this
    · have hg := g3 hD
      have hk0 : k ≠ 0 := fun e0 => by
        subst e0
        have := told_head h
        rw [hy] at this; cases this
        exact g1 ey.symm
      have h2 : 2 ≤ ((E.drop 1).map (·.2)).count e.2 := by
        refine two_count (a := k - 1) (b := i - 1) (by omega) ?_ ?_
        · rw [List.getElem?_map, List.getElem?_drop, show 1 + (k - 1) = k by omega, hy]; exact congrArg some ey
        · rw [List.getElem?_map, List.getElem?_drop, show 1 + (i - 1) = i by omega, he]; rfl
      omega
theorem all_fit {E : List En} (h : Told G E E.length) (hf : ∀ k < E.length, Fit G E k) : Cond G 6 1 (fun _ => 0) ∧ ∀ x, (U G 6 1).count x = ((E.drop 1).map (·.2)).count x := by
  have hd := told_depth h hf (Nat.le_refl _)
  have hl := told_all h
  have h70 : levF G 1 7 = [] := by
    rw [← hl 7]
    unfold lvl
    rw [List.map_eq_nil_iff, List.filter_eq_nil_iff]
    intro e he
    obtain ⟨k, hk⟩ := List.mem_iff_getElem?.1 he
    obtain ⟨e', he', _, _, h6, _⟩ := hf k (List.getElem?_eq_some_iff.1 hk).1
    rw [hk] at he'; cases he'
    simp; omega
  have hcount : ∀ x, (U G 6 1).count x = ((E.drop 1).map (·.2)).count x := fun x => by
    have e := count_lvls x (E.drop 1) (fun y hy => by
      obtain ⟨k, hk⟩ := List.mem_iff_getElem?.1 hy
      rw [List.getElem?_drop] at hk
      exact hd (1 + k) y (by omega) hk)
    rw [e, u_count]
    have e6 : cnts (fun d => (levF G 1 d).count x) 6 = cnts (fun d => (levF G 1 d).count x) 7 := by rw [show cnts (fun d => (levF G 1 d).count x) 7 = cnts (fun d => (levF G 1 d).count x) 6 + (levF G 1 7).count x from rfl, h70]; simp
    rw [e6]
    have hh := told_head h
    have key : ∀ d, lvl (d + 1) (E.drop 1) = lvl (d + 1) E := fun d => by
      have : E = (0, 1) :: E.drop 1 := by
        have h0 := (List.getElem?_eq_some_iff.1 hh)
        obtain ⟨a, b⟩ := h0
        have := List.drop_eq_getElem_cons a
        rw [List.drop_zero] at this
        rw [← b]; exact this
      conv => rhs; rw [this]
      simp [lvl]
    have kk : ∀ r, cnts (fun d => (levF G 1 d).count x) r = cnts (fun d => (lvl d (E.drop 1)).count x) r := fun r => by
      induction r with
      | zero => rfl
      | succ r ih => rw [cnts, cnts, ih, key, hl]
    exact kk 7
  refine ⟨⟨(deep_lev 6 1).2 h70, fun c hc => ?_⟩, hcount⟩
  have hp : 0 < ((E.drop 1).map (·.2)).count c := by rw [← hcount]; exact List.count_pos_iff.2 hc
  obtain ⟨j, hj⟩ := List.mem_iff_getElem?.1 (List.count_pos_iff.1 hp)
  rw [List.getElem?_map, List.getElem?_drop, Option.map_eq_some_iff] at hj
  obtain ⟨e, he, rfl⟩ := hj
  obtain ⟨e', he', g1, g2, g3, g4⟩ := hf (1 + j) (List.getElem?_eq_some_iff.1 he).1
  rw [he] at he'; cases he'
  refine ⟨g2 (by omega), g1, fun hD => ?_⟩
  rw [hcount, Nat.zero_add]
  refine Classical.byContradiction fun hn => ?_
  obtain ⟨a, b, hab, ha, hb⟩ := two_places (l := (E.drop 1).map (·.2)) (x := e.2) (by omega)
  rw [List.getElem?_map, List.getElem?_drop, Option.map_eq_some_iff] at ha hb
  obtain ⟨ya, ya1, ya2⟩ := ha
  obtain ⟨yb, yb1, yb2⟩ := hb
  obtain ⟨e'', he'', _, _, _, q4⟩ := hf (1 + b) (List.getElem?_eq_some_iff.1 yb1).1
  rw [yb1] at he''; cases he''
  exact q4 (by rw [yb2]; exact hD) (1 + a) (by omega) ya ya1 (by rw [ya2, yb2])
end
section
variable (G : List Nd)
def V (r : Nat) (D : List Int) : List Int := D.flatMap fun c => c :: U G r c
def Part (r : Nat) (D : List Int) (l : Int → Nat) : Prop := (∀ c ∈ D, Deep G r c) ∧ ∀ x ∈ V G r D, x ≠ 1 ∧ (fnd G x).isSome ∧ (isD G x = true → l x + (V G r D).count x ≤ 1)
end
section
variable {G : List Nd} {r : Nat} {D R : List Int} {l : Int → Nat} {a c : Int}
theorem cond_part : Cond G (r + 1) a l ↔ Part G r (kids G a) l := Iff.rfl
theorem cond_zero : Cond G 0 a l ↔ kids G a = [] := by
  constructor
  · exact fun h => h.1
  · exact fun h => ⟨h, fun c hc => by simp [U] at hc⟩
theorem v_app : V G r (D ++ R) = V G r D ++ V G r R := by simp [V]
theorem v_one : V G r [c] = c :: U G r c := by simp [V]
theorem v_perm (h : D.Perm R) : (V G r D).Perm (V G r R) := h.flatMap_right _
theorem part_perm (h : D.Perm R) : Part G r D l ↔ Part G r R l := by
  have hv := v_perm (G := G) (r := r) h
  unfold Part
  constructor
  · rintro ⟨h1, h2⟩
    exact ⟨fun c hc => h1 c (h.mem_iff.2 hc), fun x hx => by rw [← hv.count_eq]; exact h2 x (hv.mem_iff.2 hx)⟩
  · rintro ⟨h1, h2⟩
    exact ⟨fun c hc => h1 c (h.mem_iff.1 hc), fun x hx => by rw [hv.count_eq]; exact h2 x (hv.mem_iff.1 hx)⟩
theorem part_nil : Part G r [] l := ⟨by simp, by simp [V]⟩
theorem part_left (h : Part G r (D ++ R) l) : Part G r D l := by
  refine ⟨fun c hc => h.1 c (List.mem_append_left _ hc), fun x hx => ?_⟩
  obtain ⟨a, b, c⟩ := h.2 x (by rw [v_app]; exact List.mem_append_left _ hx)
  refine ⟨a, b, fun hd => ?_⟩
  have := c hd
  rw [v_app, List.count_append] at this
  omega
theorem part_head (h : Part G r (D ++ [c]) l) : c ≠ 1 ∧ (fnd G c).isSome ∧ (isD G c = true → l c + (V G r D).count c + 1 ≤ 1) ∧ Deep G r c := by
  obtain ⟨p, q, s⟩ := h.2 c (by rw [v_app, v_one]; simp)
  refine ⟨p, q, fun hd => ?_, h.1 c (by simp)⟩
  have := s hd
  rw [v_app, v_one, List.count_append, List.count_cons] at this
  simp at this
  omega
def more (l : Int → Nat) (xs : List Int) : Int → Nat := fun n => l n + xs.count n
theorem more_nil : more l [] = l := by funext n; simp [more]
theorem more_app {xs ys : List Int} : more (more l xs) ys = more l (xs ++ ys) := by funext n; simp [more]; omega
theorem more_perm {xs ys : List Int} (h : xs.Perm ys) : more l xs = more l ys := by funext n; simp [more, h.count_eq]
theorem part_dir (hp : Part G r D l) (h1 : c ≠ 1) (hs : (fnd G c).isSome) (hl : more l (V G r D ++ [c]) c ≤ 1) : Part G r (D ++ [c]) l ↔ Cond G r c (more l (V G r D ++ [c])) := by
  constructor
  · rintro ⟨p, q⟩
    refine ⟨p c (by simp), fun x hx => ?_⟩
    obtain ⟨u, v, w⟩ := q x (by rw [v_app, v_one]; simp [hx])
    refine ⟨u, v, fun hd => ?_⟩
    have := w hd
    rw [v_app, v_one, List.count_append, List.count_cons] at this
    simp only [more, List.count_append, List.count_singleton]
    omega
  · rintro ⟨p, q⟩
    refine ⟨fun x hx => ?_, fun x hx => ?_⟩
    · rcases List.mem_append.1 hx with hx | hx
      · exact hp.1 x hx
      · simp at hx; subst hx; exact p
    · have hcnt : (V G r (D ++ [c])).count x = (V G r D).count x + ((if (c == x) = true then 1 else 0) + (U G r c).count x) := by
        rw [v_app, v_one, List.count_append, List.count_cons]; omega
      by_cases hU : x ∈ U G r c
      · obtain ⟨u, v, w⟩ := q x hU
        refine ⟨u, v, fun hd => ?_⟩
        have := w hd
        simp only [more, List.count_append, List.count_singleton] at this
        rw [hcnt]; omega
      · have hz : (U G r c).count x = 0 := List.count_eq_zero.2 hU
        by_cases e : c = x
        · subst e
          refine ⟨h1, hs, fun hd => ?_⟩
          simp only [more, List.count_append, List.count_singleton] at hl
          rw [hcnt]; omega
        · have hx' : x ∈ V G r D := by
            rw [v_app, v_one] at hx
            rcases List.mem_append.1 hx with hx | hx
            · exact hx
            · rcases List.mem_cons.1 hx with hx | hx
              · exact absurd hx.symm e
              · exact absurd hx hU
          obtain ⟨u, v, w⟩ := hp.2 x hx'
          refine ⟨u, v, fun hd => ?_⟩
          have := w hd
          have e' : (c == x) = false := by simp [e]
          rw [hcnt, e']; simp; omega
theorem u_file (hk : kids G c = []) : ∀ r, U G r c = []
  | 0 => rfl
  | r + 1 => by rw [U, hk]; rfl
theorem deep_file (hk : kids G c = []) : ∀ r, Deep G r c
  | 0 => hk
  | r + 1 => by rw [Deep, hk]; simp
theorem part_file (hp : Part G r D l) (h1 : c ≠ 1) (hs : (fnd G c).isSome) (hd : isD G c = false) (hk : kids G c = []) : Part G r (D ++ [c]) l := by
  refine ⟨fun x hx => ?_, fun x hx => ?_⟩
  · rcases List.mem_append.1 hx with hx | hx
    · exact hp.1 x hx
    · simp at hx; subst hx; exact deep_file hk r
  · rw [v_app, v_one, u_file hk] at hx ⊢
    rcases List.mem_append.1 hx with hx | hx
    · obtain ⟨u, v, w⟩ := hp.2 x hx
      refine ⟨u, v, fun hx' => ?_⟩
      have := w hx'
      have e : c ≠ x := fun e => by subst e; rw [hd] at hx'; cases hx'
      rw [List.count_append, List.count_cons]
      have e' : (c == x) = false := by simp [e]
      rw [e']; simp; omega
    · simp at hx; subst hx
      exact ⟨h1, hs, fun e => by rw [hd] at e; cases e⟩
end
structure Seen {β : Type} (E D : List (Nat × β)) : Prop where
  sub : ∀ e ∈ D, e ∈ E
  nd : (D.map (·.1)).Nodup
section
variable {β : Type} {E D : List (Nat × β)}
theorem Seen.nil : Seen E ([] : List (Nat × β)) := ⟨by simp, by simp⟩
theorem mark_inj (hE : (E.map (·.1)).Nodup) {a b : Nat × β} (ha : a ∈ E) (hb : b ∈ E) (h : a.1 = b.1) : a = b := by
  obtain ⟨i, hi⟩ := List.mem_iff_getElem?.1 ha
  obtain ⟨j, hj⟩ := List.mem_iff_getElem?.1 hb
  have h1 : (E.map (·.1))[i]? = some a.1 := by rw [List.getElem?_map, hi]; rfl
  have h2 : (E.map (·.1))[j]? = some a.1 := by rw [List.getElem?_map, hj, h]; rfl
  have hil := (List.getElem?_eq_some_iff.1 h1).1
  have e : i = j := (List.getElem?_inj hil hE).1 (h1.trans h2.symm)
  subst e
  rw [hi] at hj; cases hj; rfl
theorem Seen.add (h : Seen E D) {e : Nat × β} (he : e ∈ E) (hn : ¬ e.1 ∈ D.map (·.1)) : Seen E (D ++ [e]) := by
  refine ⟨fun x hx => ?_, ?_⟩
  · rcases List.mem_append.1 hx with hx | hx
    · exact h.sub x hx
    · simp at hx; subst hx; exact he
  · rw [List.map_append, List.nodup_append]
    refine ⟨h.nd, by simp, fun a ha b hb => ?_⟩
    simp at hb; subst hb
    exact fun e' => hn (e' ▸ ha)
theorem Seen.rest : ∀ {D : List (Nat × β)} {E : List (Nat × β)}, (E.map (·.1)).Nodup → Seen E D → ∃ R, (D ++ R).Perm E
  | [], E, _, _ => ⟨E, List.Perm.refl _⟩
  | d :: D, E, hE, h => by
    have hd := h.sub d (List.mem_cons_self ..)
    obtain ⟨A, B, rfl⟩ := List.append_of_mem hd
    have hp : (A ++ d :: B).Perm (d :: (A ++ B)) := List.perm_middle
    have hE' : ((A ++ B).map (·.1)).Nodup := by
      have h1 := (hp.map (·.1)).nodup_iff.1 hE
      rw [List.map_cons, List.nodup_cons] at h1
      exact h1.2
    have hn := h.nd
    rw [List.map_cons, List.nodup_cons] at hn
    have hs : Seen (A ++ B) D := by
      refine ⟨fun x hx => ?_, hn.2⟩
      have := h.sub x (List.mem_cons_of_mem _ hx)
      have hxd : x ≠ d := fun e => hn.1 (e ▸ List.mem_map.2 ⟨x, hx, rfl⟩)
      rcases List.mem_append.1 this with q | q
      · exact List.mem_append_left _ q
      · rcases List.mem_cons.1 q with q | q
        · exact absurd q hxd
        · exact List.mem_append_right _ q
    obtain ⟨R, hR⟩ := Seen.rest hE' hs
    exact ⟨R, (List.Perm.cons d hR).trans hp.symm⟩
theorem Seen.len (hE : (E.map (·.1)).Nodup) (h : Seen E D) : D.length ≤ E.length := by
  obtain ⟨R, hR⟩ := h.rest hE
  have := hR.length_eq; rw [List.length_append] at this; omega
theorem Seen.all (hE : (E.map (·.1)).Nodup) (h : Seen E D) (ha : ∀ e ∈ E, e.1 ∈ D.map (·.1)) : D.Perm E := by
  obtain ⟨R, hR⟩ := h.rest hE
  cases R with
  | nil => rwa [List.append_nil] at hR
  | cons r R =>
    exfalso
    have hr : r ∈ E := hR.mem_iff.1 (by simp)
    obtain ⟨d, hd, e⟩ := List.mem_map.1 (ha r hr)
    have hdr := mark_inj hE (h.sub d hd) hr e
    subst hdr
    have hn := (hR.map (·.1)).nodup_iff.2 hE
    rw [List.map_append, List.nodup_append] at hn
    exact hn.2.2 d.1 (List.mem_map.2 ⟨d, hd, rfl⟩) d.1 (by simp) rfl
end
section
variable {G : List Nd}
theorem v_len {r : Nat} (h : ∀ a, (U G r a).length + 1 ≤ 81 ^ r) : ∀ D : List Int, (V G r D).length ≤ D.length * 81 ^ r
  | [] => by simp [V]
  | c :: D => by
    have ih := v_len h D
    have := h c
    have e : V G r (c :: D) = (c :: U G r c) ++ V G r D := by simp [V]
    rw [e, List.length_append, List.length_cons, List.length_cons, Nat.add_mul]
    omega
theorem u_len (hk : ∀ n, (kids G n).length ≤ 80) : ∀ r a, (U G r a).length + 1 ≤ 81 ^ r
  | 0, a => by simp [U]
  | r + 1, a => by
    have h := v_len (u_len hk r) (kids G a)
    have e : U G (r + 1) a = V G r (kids G a) := rfl
    have h1 : (kids G a).length * 81 ^ r ≤ 80 * 81 ^ r := Nat.mul_le_mul_right _ (hk a)
    have h2 : 0 < 81 ^ r := Nat.pow_pos (by decide)
    rw [e, Nat.pow_succ]
    omega
theorem more_le {l : Int → Nat} {xs : List Int} (x : Int) : more l xs x ≤ l x + xs.length := by
  have := List.count_le_length (a := x) (l := xs)
  simp only [more]; omega
end
section
theorem kids_cons {x : Nd} {G : List Nd} (n : Int) : kids (x :: G) n = if x.num = n then x.ch else kids G n := by
  unfold kids fnd
  rw [List.find?_cons]
  by_cases h : x.num = n
  · simp [h]
  · simp [h]
theorem sum_split {x : Nd} {G : List Nd} : ∀ D : List Int, (D.map fun n => (kids (x :: G) n).length).sum = D.count x.num * x.ch.length + ((D.filter fun n => decide (n ≠ x.num)).map fun n => (kids G n).length).sum
  | [] => by simp
  | d :: D => by
    have ih := sum_split (x := x) (G := G) D
    rw [List.map_cons, List.sum_cons, ih, kids_cons, List.count_cons, List.filter_cons]
    by_cases h : x.num = d
    · subst h
      simp [Nat.add_mul]; omega
    · have h' : (d == x.num) = false := by simp; exact fun e => h e.symm
      have h2 : d ≠ x.num := fun e => h e.symm
      simp [h, h', h2]; omega
theorem kids_sum : ∀ {G : List Nd} (D : List Int), (G.map (·.num)).Nodup → (D.map fun n => (kids G n).length).sum = (G.map fun x => D.count x.num * x.ch.length).sum
  | [], D, _ => by
    induction D with
    | nil => rfl
    | cons d D ih => rw [List.map_cons, List.sum_cons, ih]; rfl
  | x :: G, D, h => by
    rw [List.map_cons, List.nodup_cons] at h
    rw [sum_split, kids_sum _ h.2, List.map_cons, List.sum_cons]
    congr 2
    refine List.map_congr_left fun y hy => ?_
    have hne : y.num ≠ x.num := fun e => h.1 (by rw [← e]; exact List.mem_map.2 ⟨y, hy, rfl⟩)
    rw [List.count_filter (by simp [hne])]
theorem sum_le {α : Type} {f g : α → Nat} : ∀ {l : List α}, (∀ x ∈ l, f x ≤ g x) → (l.map f).sum ≤ (l.map g).sum
  | [], _ => Nat.le_refl _
  | x :: l, h => by
    have h1 := h x (List.mem_cons_self ..)
    have h2 := sum_le (l := l) fun y hy => h y (List.mem_cons_of_mem _ hy)
    rw [List.map_cons, List.sum_cons, List.map_cons, List.sum_cons]; omega
theorem kidsE_len {G : List Nd} : ∀ (A : List En), (A.flatMap (kidsE G)).length = ((A.map (·.2)).map fun n => (kids G n).length).sum
  | [] => rfl
  | e :: A => by
    rw [List.flatMap_cons, List.length_append, kidsE_len A]
    simp [kidsE]
theorem told_len {G : List Nd} {E : List En} {i : Nat} (h : Told G E i) : E.length = 1 + (((E.take i).map (·.2)).map fun n => (kids G n).length).sum := by
  have e := congrArg List.length h
  rw [List.length_cons, kidsE_len] at e
  omega
theorem fit_once {G : List Nd} {E : List En} {i : Nat} (hf : ∀ k < i, Fit G E k) (hi : i ≤ E.length) {n : Int} (hd : isD G n = true) : ((E.take i).map (·.2)).count n ≤ 1 := by
  refine Classical.byContradiction fun hn => ?_
  obtain ⟨a, b, hab, ha, hb⟩ := two_places (l := (E.take i).map (·.2)) (x := n) (by omega)
  rw [List.getElem?_map, Option.map_eq_some_iff] at ha hb
  obtain ⟨ya, ya1, ya2⟩ := ha
  obtain ⟨yb, yb1, yb2⟩ := hb
  rw [List.getElem?_take] at ya1 yb1
  split at yb1
  · rename_i hbi
    rw [if_pos (by omega)] at ya1
    obtain ⟨e, he, _, _, _, q4⟩ := hf b hbi
    rw [yb1] at he; cases he
    exact q4 (by rw [yb2]; exact hd) a hab ya ya1 (by rw [ya2, yb2])
  · cases yb1
def Plain (G : List Nd) : Prop := (G.map (·.num)).Nodup ∧ ∀ x ∈ G, x.dir = false → x.ch = []
theorem fnd_mem : ∀ {G : List Nd} {x : Nd}, (G.map (·.num)).Nodup → x ∈ G → fnd G x.num = some x
  | y :: G, x, h, hx => by
    rw [List.map_cons, List.nodup_cons] at h
    unfold fnd
    rw [List.find?_cons]
    rcases List.mem_cons.1 hx with rfl | hx
    · simp
    · have hne : y.num ≠ x.num := fun e => h.1 (by rw [e]; exact List.mem_map.2 ⟨x, hx, rfl⟩)
      simp only [hne, decide_false]
      exact fnd_mem h.2 hx
theorem isD_mem {G : List Nd} {x : Nd} (h : (G.map (·.num)).Nodup) (hx : x ∈ G) : isD G x.num = x.dir := by unfold isD; rw [fnd_mem h hx]
theorem told_le {G : List Nd} (hG : Plain G) {E : List En} {i : Nat} (h : Told G E i) (hf : ∀ k < i, Fit G E k) (hi : i ≤ E.length) : E.length ≤ 1 + (G.map fun x => x.ch.length).sum := by
  rw [told_len h, kids_sum _ hG.1]
  refine Nat.add_le_add_left (sum_le fun x hx => ?_) 1
  by_cases hd : x.dir = true
  · have := fit_once hf hi (n := x.num) (by rw [isD_mem hG.1 hx]; exact hd)
    have := Nat.mul_le_mul_right x.ch.length this
    omega
  · rw [hG.2 x hx (by simpa using hd)]; simp
theorem told_eq {G : List Nd} (hG : Plain G) {E : List En} (h : Told G E E.length) (hf : ∀ k < E.length, Fit G E k) (hu : ∀ x ∈ G, 0 < (E.map (·.2)).count x.num) : E.length = 1 + (G.map fun x => x.ch.length).sum := by
  have e := told_len h
  rw [List.take_length, kids_sum _ hG.1] at e
  rw [e]
  congr 2
  refine List.map_congr_left fun x hx => ?_
  by_cases hd : x.dir = true
  · have h1 := fit_once hf (Nat.le_refl _) (n := x.num) (by rw [isD_mem hG.1 hx]; exact hd)
    rw [List.take_length] at h1
    have h2 := hu x hx
    have : (E.map (·.2)).count x.num = 1 := by omega
    rw [this, Nat.one_mul]
  · rw [hG.2 x hx (by simpa using hd)]; simp
theorem told_put {G : List Nd} {E : List En} {i : Nat} {e : En} (h : Told G E i) (he : E[i]? = some e) : Told G (E ++ kidsE G e) (i + 1) := by
  unfold Told at *
  have hl := (List.getElem?_eq_some_iff.1 he).1
  rw [List.take_append_of_le_length (by omega), List.take_add_one, he, List.flatMap_append]
  conv => lhs; rw [h]
  simp
theorem fit_app {G : List Nd} {E A : List En} {i : Nat} (h : Fit G E i) : Fit G (E ++ A) i := by
  obtain ⟨e, he, a, b, c, d⟩ := h
  have hl := (List.getElem?_eq_some_iff.1 he).1
  refine ⟨e, by rw [List.getElem?_append_left hl]; exact he, a, b, c, fun hd k hk y hy => ?_⟩
  rw [List.getElem?_append_left (by omega)] at hy
  exact d hd k hk y hy
end
end Go.Aff.L31

namespace Go.Aff

structure Dig where
  l : List UInt8
  h : l.length = 32

inductive Tk where
  | none | full | lit | own (t : Nat)

inductive AV where
  | undef
  | bool (b : Bool)
  | int (k : IntKind) (n : Int)
  | str (s : List UInt8)
  | ptr (p : Option (Nat × List Nat))
  | slice (tk : Tk) (xs : List AV)
  | eptr (v : AV)
  | mp (r : Option Nat)
  | arr (i : Nat) (p : List Nat) (n : Nat)
  | fn (f : Fn) (first captured : List AV)
  | nilFn
  | lit (x : Value)
  | agg (ps : List AV)
  | dig (d : Dig)
  | tuple (vs : List AV)
  | iface (t : TypeId) (v : AV)
  | nilIface

instance : Inhabited AV := ⟨.undef⟩

mutual
def AV.size : AV → Nat
  | .agg ps => AV.sizes ps
  | .dig _ => 32
  | _ => 1
def AV.sizes : List AV → Nat
  | [] => 0
  | p :: ps => p.size + AV.sizes ps
end

def AV.isAgg : AV → Bool
  | .agg _ | .dig _ => true
  | _ => false

def vAgg : Value → Bool
  | .agg _ => true
  | _ => false

inductive Shape where
  | leaf | dig | node (l : List Shape)

mutual
def AV.shape : AV → Shape
  | .agg ps => .node (AV.shapes ps)
  | .dig _ => .dig
  | _ => .leaf
def AV.shapes : List AV → List Shape
  | [] => []
  | p :: ps => p.shape :: AV.shapes ps
end

mutual
def Shape.size : Shape → Nat
  | .node l => Shape.sizes l
  | .dig => 32
  | .leaf => 1
def Shape.sizes : List Shape → Nat
  | [] => 0
  | p :: ps => p.size + Shape.sizes ps
end

mutual
theorem AV.size_shape : ∀ v : AV, v.shape.size = v.size
  | .agg ps => by simp only [AV.shape, Shape.size, AV.size]; exact AV.sizes_shapes ps
  | .dig _ => rfl
  | .undef | .bool _ | .int _ _ | .str _ | .ptr _ | .slice _ _ | .eptr _ | .mp _ | .arr _ _ _ | .fn _ _ _ | .nilFn | .lit _ | .tuple _ | .iface _ _ | .nilIface => rfl
theorem AV.sizes_shapes : ∀ ps : List AV, Shape.sizes (AV.shapes ps) = AV.sizes ps
  | [] => rfl
  | p :: ps => by simp only [AV.shapes, Shape.sizes, AV.sizes, AV.size_shape p, AV.sizes_shapes ps]
end

theorem AV.shapes_eq_map (ps : List AV) : AV.shapes ps = ps.map AV.shape := by
  induction ps with
  | nil => rfl
  | cons p ps ih => simp [AV.shapes, ih]

def Shape.off : Shape → List Nat → Option Nat
  | _, [] => some 0
  | .node l, i :: p => (l[i]?).bind fun s => (s.off p).map (Shape.sizes (l.take i) + ·)
  | .dig, [i] => if i < 32 then some i else none
  | _, _ :: _ => none

def AV.at : AV → List Nat → Option AV
  | v, [] => some v
  | .agg ps, i :: p => (ps[i]?).bind fun v => v.at p
  | .dig d, [i] => (d.l[i]?).map fun b => .int .u8 b.toNat
  | _, _ :: _ => none

def Dig.set (d : Dig) (i : Nat) (n : Int) : Dig := ⟨d.l.set i (UInt8.ofNat n.toNat), by simp [d.h]⟩

def AV.setAt : AV → List Nat → AV → AV
  | _, [], x => x
  | .agg ps, i :: p, x => match ps[i]? with
    | some v => .agg (ps.set i (v.setAt p x))
    | none => .agg ps
  | .dig d, [i], .int .u8 n => .dig (d.set i n)
  | v, _ :: _, _ => v

structure TokE where
  a : Option (Nat × Nat)
  len : Nat
  cap : Nat
  es : Nat

structure G where
  base : Nat
  objs : List (Nat × Shape)
  lim : Nat → Option Nat
  toks : List TokE

def G.below (g : G) (b m : Nat) : Prop := b < g.base ∨ ∃ L, g.lim b = some L ∧ m ≤ L

def rd (w : World) (b o : Nat) (cs : List Value) : Prop :=
  ∃ c e fr, w.heap[b]? = some (.cells c e fr) ∧ ∀ j, j < cs.length → c[o + j]? = cs[j]?

def mkAddr (x : Nat × Nat) : Addr := ⟨x.1, x.2, none⟩
def Ad (ad : Option Addr) (a : Option (Nat × Nat)) (c : Nat) : Prop := ad = a.map mkAddr ∨ (a = none ∧ c = 0)
theorem Ad.some {ad : Option Addr} {x : Nat × Nat} {c : Nat} (h : Ad ad (some x) c) : ad = some (mkAddr x) := by
  rcases h with h | ⟨h, _⟩
  · exact h
  · cases h

def maxL : Nat := 9223372036854775807

def tkOk (g : G) (a : Option (Nat × Nat)) (n c es : Nat) : Tk → Prop
  | .none => True
  | .full => c = n
  | .lit => c = n ∧ ∃ b o L, a = some (b, o) ∧ g.base ≤ b ∧ g.lim b = some L
  | .own t => ∃ e, g.toks[t]? = some e ∧ n ≤ e.len ∧ (n = e.len → e.a = a ∧ e.cap = c) ∧ (n = 0 ∨ es = e.es)

mutual
def relC (g : G) (w : World) : AV → List Value → Prop
  | .undef, cs => ∃ c, cs = [c] ∧ c.oneCell' = true
  | .bool b, cs => cs = [.bool b]
  | .int k n, cs => cs = [.int k n]
  | .str s, cs => cs = [.string ⟨s.toArray⟩] ∧ s.length ≤ maxL
  | .ptr none, cs => cs = [.pointer none]
  | .ptr (some (i, p)), cs => ∃ b sh o, g.objs[i]? = some (b, sh) ∧ sh.off p = some o ∧ cs = [.pointer (some ⟨b, o, none⟩)]
  | .slice tk xs, cs => ∃ ad a c es css, cs = [.slice ad xs.length c] ∧ Ad ad a c ∧ relEs g w es xs css ∧ xs.length ≤ c ∧ c ≤ maxL ∧ (a = none → c = 0) ∧
      (∀ b o, a = some (b, o) → css = [] ∨ (rd w b o css ∧ g.below b (o + css.length))) ∧ tkOk g a xs.length c es tk
  | .eptr v, cs => ∃ b o cv, cs = [.pointer (some ⟨b, o, none⟩)] ∧ relC g w v cv ∧ rd w b o cv ∧ g.below b (o + cv.length)
  | .arr i p n, cs => ∃ b sh o c, g.objs[i]? = some (b, sh) ∧ sh.off p = some o ∧ cs = [.slice (some ⟨b, o, none⟩) n c] ∧ n ≤ c ∧ c ≤ maxL
  | .mp none, cs => cs = [.map none]
  | .mp (some i), cs => ∃ b sh, g.objs[i]? = some (b, sh) ∧ cs = [.map (some b)]
  | .fn f first cap, cs => ∃ a b, cs = [.func f a b] ∧ relVs g w first a.toList ∧ relVs g w cap b.toList
  | .nilFn, cs => cs = [.nilFunc]
  | .lit x, cs => cs = [x] ∧ x.oneCell' = true
  | .agg ps, cs => relPs g w ps cs
  | .dig d, cs => cs = d.l.map fun b => Value.int .u8 b.toNat
  | .tuple _, _ => False
  | .iface t v, cs => ∃ x, cs = [.iface t x] ∧ relC g w v x.cells.toList ∧ v.isAgg = vAgg x
  | .nilIface, cs => cs = [.nilIface]
def relPs (g : G) (w : World) : List AV → List Value → Prop
  | [], cs => cs = []
  | p :: ps, cs => ∃ c1 c2, cs = c1 ++ c2 ∧ relC g w p c1 ∧ relPs g w ps c2
def relEs (g : G) (w : World) (es : Nat) : List AV → List Value → Prop
  | [], cs => cs = []
  | p :: ps, cs => ∃ c1 c2, cs = c1 ++ c2 ∧ c1.length = es ∧ relC g w p c1 ∧ relEs g w es ps c2
def relVs (g : G) (w : World) : List AV → List Value → Prop
  | [], l => l = []
  | v :: vs, l => ∃ x r, l = x :: r ∧ relC g w v x.cells.toList ∧ v.isAgg = vAgg x ∧ relVs g w vs r
end

def relV (g : G) (w : World) (v : AV) (x : Value) : Prop :=
  v = .undef ∨ (∃ vs a, v = .tuple vs ∧ x = .tuple a ∧ relVs g w vs a.toList) ∨ (relC g w v x.cells.toList ∧ v.isAgg = vAgg x)

mutual
theorem relC_size {g : G} {w : World} : ∀ {v : AV} {cs : List Value}, relC g w v cs → cs.length = v.size
  | .undef, cs, h => by simp only [relC] at h; obtain ⟨c, rfl, _⟩ := h; rfl
  | .bool _, cs, h | .int _ _, cs, h | .nilFn, cs, h | .nilIface, cs, h => by simp only [relC] at h; subst h; rfl
  | .str _, cs, h => by simp only [relC] at h; obtain ⟨rfl, _⟩ := h; rfl
  | .lit _, cs, h => by simp only [relC] at h; obtain ⟨rfl, _⟩ := h; rfl
  | .ptr none, cs, h => by simp only [relC] at h; subst h; rfl
  | .ptr (some (i, p)), cs, h => by simp only [relC] at h; obtain ⟨_, _, _, _, _, rfl⟩ := h; rfl
  | .slice _ _, cs, h => by simp only [relC] at h; obtain ⟨_, _, _, _, _, rfl, _⟩ := h; rfl
  | .eptr _, cs, h => by simp only [relC] at h; obtain ⟨_, _, _, rfl, _⟩ := h; rfl
  | .mp none, cs, h => by simp only [relC] at h; subst h; rfl
  | .arr _ _ _, cs, h => by simp only [relC] at h; obtain ⟨_, _, _, _, _, _, rfl, _⟩ := h; rfl
  | .mp (some _), cs, h => by simp only [relC] at h; obtain ⟨_, _, _, rfl⟩ := h; rfl
  | .fn _ _ _, cs, h => by simp only [relC] at h; obtain ⟨_, _, rfl, _⟩ := h; rfl
  | .agg ps, cs, h => by simp only [relC] at h; simp only [AV.size]; exact relPs_size h
  | .dig d, cs, h => by simp only [relC] at h; subst h; simp [AV.size, d.h]
  | .tuple _, cs, h => by simp only [relC] at h
  | .iface _ _, cs, h => by simp only [relC] at h; obtain ⟨_, rfl, _⟩ := h; rfl
theorem relPs_size {g : G} {w : World} : ∀ {ps : List AV} {cs : List Value}, relPs g w ps cs → cs.length = AV.sizes ps
  | [], cs, h => by simp only [relPs] at h; subst h; rfl
  | p :: ps, cs, h => by
    simp only [relPs] at h; obtain ⟨c1, c2, rfl, h1, h2⟩ := h
    simp only [List.length_append, AV.sizes, relC_size h1, relPs_size h2]
end

theorem relEs_size {g : G} {w : World} {es : Nat} : ∀ {ps : List AV} {cs : List Value}, relEs g w es ps cs → cs.length = ps.length * es
  | [], cs, h => by simp only [relEs] at h; subst h; simp
  | p :: ps, cs, h => by
    simp only [relEs] at h; obtain ⟨c1, c2, rfl, h1, _, h2⟩ := h
    simp only [List.length_append, List.length_cons, relEs_size h2, h1, Nat.add_mul, Nat.one_mul]; omega

theorem relVs_length {g : G} {w : World} : ∀ {vs : List AV} {l : List Value}, relVs g w vs l → l.length = vs.length
  | [], l, h => by simp only [relVs] at h; subst h; rfl
  | v :: vs, l, h => by simp only [relVs] at h; obtain ⟨x, r, rfl, _, _, h⟩ := h; simp [relVs_length h]

structure Ev (g : G) (w : World) (g' : G) (w' : World) : Prop where
  os : w'.os = w.os
  tape : w'.tape = w.tape
  output : w'.output = w.output
  size : w.heap.size ≤ w'.heap.size
  base : g'.base = g.base
  old : ∀ b, b < g.base → w'.heap[b]? = w.heap[b]?
  objs : ∀ (i : Nat) x, g.objs[i]? = some x → g'.objs[i]? = some x
  lim : ∀ b L, g.lim b = some L → (∃ L', g'.lim b = some L' ∧ L ≤ L') ∧
    ∀ c e fr, w.heap[b]? = some (.cells c e fr) → ∃ c' e' fr', w'.heap[b]? = some (.cells c' e' fr') ∧ ∀ j, j < L → c'[j]? = c[j]?
  toks : ∀ (t : Nat) e, g.toks[t]? = some e → ∃ e', g'.toks[t]? = some e' ∧ e'.es = e.es ∧ e.len ≤ e'.len ∧ (e'.len = e.len → e' = e) ∧ (e'.a = e.a ∨ ∀ b o, e'.a = some (b, o) → w.heap.size ≤ b ∧ o = 0)

theorem Ev.refl (g : G) (w : World) : Ev g w g w :=
  ⟨rfl, rfl, rfl, Nat.le_refl _, rfl, fun _ _ => rfl, fun _ _ h => h, fun b L h => ⟨⟨L, h, Nat.le_refl _⟩, fun c e fr hc => ⟨c, e, fr, hc, fun _ _ => rfl⟩⟩,
    fun t e h => ⟨e, h, rfl, Nat.le_refl _, fun _ => rfl, .inl rfl⟩⟩

theorem Ev.trans {g g' g'' : G} {w w' w'' : World} (h : Ev g w g' w') (k : Ev g' w' g'' w'') : Ev g w g'' w'' where
  os := k.os.trans h.os
  tape := k.tape.trans h.tape
  output := k.output.trans h.output
  size := Nat.le_trans h.size k.size
  base := k.base.trans h.base
  old b hb := (k.old b (by rw [h.base]; exact hb)).trans (h.old b hb)
  objs i x hx := k.objs i x (h.objs i x hx)
  lim b L hL := by
    obtain ⟨⟨L', hL', hle⟩, hc⟩ := h.lim b L hL
    obtain ⟨⟨L'', hL'', hle'⟩, hc'⟩ := k.lim b L' hL'
    refine ⟨⟨L'', hL'', Nat.le_trans hle hle'⟩, fun c e fr hb => ?_⟩
    obtain ⟨c', e', fr', hb', hj⟩ := hc c e fr hb
    obtain ⟨c'', e'', fr'', hb'', hj'⟩ := hc' c' e' fr' hb'
    exact ⟨c'', e'', fr'', hb'', fun j hjl => (hj' j (Nat.lt_of_lt_of_le hjl hle)).trans (hj j hjl)⟩
  toks t e ht := by
    obtain ⟨e', ht', hes, hle, heq, hnew⟩ := h.toks t e ht
    obtain ⟨e'', ht'', hes', hle', heq', hnew'⟩ := k.toks t e' ht'
    refine ⟨e'', ht'', hes'.trans hes, Nat.le_trans hle hle', fun hl => ?_, ?_⟩
    rotate_left
    · rcases hnew' with h1 | h1
      · rw [h1]; exact hnew
      · exact .inr fun b o hb => ⟨Nat.le_trans h.size (h1 b o hb).1, (h1 b o hb).2⟩
    have h1 : e'.len = e.len := by omega
    rw [heq' (by omega), heq h1]

theorem rd_mono {g g' : G} {w w' : World} (h : Ev g w g' w') {b o : Nat} {cs : List Value} (hr : rd w b o cs) (hb : g.below b (o + cs.length)) :
    rd w' b o cs ∧ g'.below b (o + cs.length) := by
  obtain ⟨c, e, fr, hc, hj⟩ := hr
  rcases hb with hb | ⟨L, hL, hle⟩
  · exact ⟨⟨c, e, fr, (h.old b hb).trans hc, hj⟩, .inl (by rw [h.base]; exact hb)⟩
  · obtain ⟨⟨L', hL', hle'⟩, hk⟩ := h.lim b L hL
    obtain ⟨c', e', fr', hc', hj'⟩ := hk c e fr hc
    exact ⟨⟨c', e', fr', hc', fun j hjl => (hj' _ (by omega)).trans (hj j hjl)⟩, .inr ⟨L', hL', by omega⟩⟩

theorem tkOk_mono {g g' : G} {w w' : World} (h : Ev g w g' w') {a : Option (Nat × Nat)} {n c es : Nat} {tk : Tk} (hk : tkOk g a n c es tk) : tkOk g' a n c es tk := by
  cases tk with
  | none => trivial
  | full => exact hk
  | lit =>
    obtain ⟨h1, b, o, L, h2, h3, h4⟩ := hk
    obtain ⟨⟨L', hL', _⟩, _⟩ := h.lim b L h4
    exact ⟨h1, b, o, L', h2, by rw [h.base]; exact h3, hL'⟩
  | own t =>
    obtain ⟨e, he, hn, heq, hes⟩ := hk
    obtain ⟨e', he', hes', hle, hsame, _⟩ := h.toks t e he
    refine ⟨e', he', by omega, fun hl => ?_, hes.imp id (fun x => x.trans hes'.symm)⟩
    have h1 : e'.len = e.len := by omega
    rw [hsame h1]; exact heq (by omega)

mutual
theorem relC_mono {g g' : G} {w w' : World} (h : Ev g w g' w') : ∀ {v : AV} {cs : List Value}, relC g w v cs → relC g' w' v cs
  | .undef, cs, hr | .bool _, cs, hr | .int _ _, cs, hr | .nilFn, cs, hr | .lit _, cs, hr | .nilIface, cs, hr | .str _, cs, hr | .ptr none, cs, hr | .mp none, cs, hr | .dig _, cs, hr => by
    simp only [relC] at hr ⊢; exact hr
  | .ptr (some (i, p)), cs, hr => by
    simp only [relC] at hr ⊢; obtain ⟨b, sh, o, h1, h2, h3⟩ := hr; exact ⟨b, sh, o, h.objs _ _ h1, h2, h3⟩
  | .slice tk xs, cs, hr => by
    simp only [relC] at hr ⊢
    obtain ⟨ad, a, c, es, css, h1, had, h2, h3, h4, h5, h6, h7⟩ := hr
    exact ⟨ad, a, c, es, css, h1, had, relEs_mono h h2, h3, h4, h5, fun b o hab => (h6 b o hab).imp id (fun ⟨x, y⟩ => rd_mono h x y), tkOk_mono h h7⟩
  | .eptr v, cs, hr => by
    simp only [relC] at hr ⊢
    obtain ⟨b, o, cv, h1, h2, h3, h4⟩ := hr
    exact ⟨b, o, cv, h1, relC_mono h h2, rd_mono h h3 h4⟩
  | .mp (some i), cs, hr => by simp only [relC] at hr ⊢; obtain ⟨b, sh, h1, h2⟩ := hr; exact ⟨b, sh, h.objs _ _ h1, h2⟩
  | .arr i p n, cs, hr => by simp only [relC] at hr ⊢; obtain ⟨b, sh, o, c, h1, h2⟩ := hr; exact ⟨b, sh, o, c, h.objs _ _ h1, h2⟩
  | .fn f first cap, cs, hr => by
    simp only [relC] at hr ⊢; obtain ⟨a, b, h1, h2, h3⟩ := hr; exact ⟨a, b, h1, relVs_mono h h2, relVs_mono h h3⟩
  | .agg ps, cs, hr => by simp only [relC] at hr ⊢; exact relPs_mono h hr
  | .tuple vs, cs, hr => by simp only [relC] at hr
  | .iface t v, cs, hr => by simp only [relC] at hr ⊢; obtain ⟨x, h1, h2, h3⟩ := hr; exact ⟨x, h1, relC_mono h h2, h3⟩
theorem relPs_mono {g g' : G} {w w' : World} (h : Ev g w g' w') : ∀ {ps : List AV} {cs : List Value}, relPs g w ps cs → relPs g' w' ps cs
  | [], cs, hr => by simp only [relPs] at hr ⊢; exact hr
  | p :: ps, cs, hr => by simp only [relPs] at hr ⊢; obtain ⟨c1, c2, h1, h2, h3⟩ := hr; exact ⟨c1, c2, h1, relC_mono h h2, relPs_mono h h3⟩
theorem relEs_mono {g g' : G} {w w' : World} (h : Ev g w g' w') {es : Nat} : ∀ {ps : List AV} {cs : List Value}, relEs g w es ps cs → relEs g' w' es ps cs
  | [], cs, hr => by simp only [relEs] at hr ⊢; exact hr
  | p :: ps, cs, hr => by simp only [relEs] at hr ⊢; obtain ⟨c1, c2, h1, hl, h2, h3⟩ := hr; exact ⟨c1, c2, h1, hl, relC_mono h h2, relEs_mono h h3⟩
theorem relVs_mono {g g' : G} {w w' : World} (h : Ev g w g' w') : ∀ {vs : List AV} {l : List Value}, relVs g w vs l → relVs g' w' vs l
  | [], l, hr => by simp only [relVs] at hr ⊢; exact hr
  | v :: vs, l, hr => by simp only [relVs] at hr ⊢; obtain ⟨x, r, h1, h2, h3, h4⟩ := hr; exact ⟨x, r, h1, relC_mono h h2, h3, relVs_mono h h4⟩
end

theorem relV_mono {g g' : G} {w w' : World} (h : Ev g w g' w') {v : AV} {x : Value} (hr : relV g w v x) : relV g' w' v x :=
  hr.imp id (fun hr => hr.imp (fun ⟨vs, a, h1, h2, h3⟩ => ⟨vs, a, h1, h2, relVs_mono h h3⟩) (fun ⟨a, b⟩ => ⟨relC_mono h a, b⟩))


inductive AObj where
  | cells (v : AV)
  | map (es : List (Nat × AV × AV)) (clock : Nat)
  | gone
  | pin (l : Nat) (o : Obj) (vs : List AV) (xs : List Value)

def AObj.live : AObj → Bool
  | .gone => false
  | _ => true

structure AST where
  objs : List AObj
  toks : List (Nat × Nat)

def AST.push (σ : AST) (o : AObj) : AST := { σ with objs := σ.objs ++ [o] }
def AST.set (σ : AST) (i : Nat) (o : AObj) : AST := { σ with objs := σ.objs.set i o }
def AST.tok (σ : AST) (n es : Nat) : AST := { σ with toks := σ.toks ++ [(n, es)] }
def AST.setTok (σ : AST) (t n es : Nat) : AST := { σ with toks := σ.toks.set t (n, es) }

def objIn (g : G) (w : World) (b : Nat) (sh : Shape) : AObj → Prop
  | .cells v => ∃ c e, w.heap[b]? = some (.cells c e) ∧ relC g w v c.toList ∧ v.shape = sh
  | .map es ck => ∃ me : Array MapEntry, w.heap[b]? = some (.map me ck) ∧ es.length = me.size ∧
      (∀ (i : Nat) e m, es[i]? = some e → me[i]? = some m → m.born = e.1 ∧ (relC g w e.2.1 m.key.cells.toList ∧ e.2.1.isAgg = vAgg m.key) ∧ (relC g w e.2.2 m.val.cells.toList ∧ e.2.2.isAgg = vAgg m.val)) ∧
      (∀ e ∈ es, e.1 < ck) ∧ (es.map (·.1)).Nodup
  | .gone => True
  | .pin l o vs xs => b = l ∧ w.heap[b]? = some o ∧ ∀ (i : Nat) v x, vs[i]? = some v → xs[i]? = some x → v = .undef ∨ (relC g w v x.cells.toList ∧ v.isAgg = vAgg x)

structure Inv (g : G) (σ : AST) (w : World) : Prop where
  base : g.base ≤ w.heap.size
  nobj : σ.objs.length = g.objs.length
  obj : ∀ (i : Nat) o, σ.objs[i]? = some o → o.live = true → ∃ b sh, g.objs[i]? = some (b, sh) ∧ g.base ≤ b ∧ g.lim b = none ∧ objIn g w b sh o
  inj : ∀ (i j : Nat) o o' b sh sh', σ.objs[i]? = some o → σ.objs[j]? = some o' → o.live = true → o'.live = true → g.objs[i]? = some (b, sh) → g.objs[j]? = some (b, sh') → i = j
  rows : ∀ b L, g.lim b = some L → g.base ≤ b ∧ ∃ c e fr, w.heap[b]? = some (.cells c e fr) ∧ L ≤ c.size ∧ (fr.1 = fr.2 ∨ c.size ≤ fr.1)
  ntok : σ.toks.length = g.toks.length
  tok : ∀ (t : Nat) e, g.toks[t]? = some e → σ.toks[t]? = some (e.len, e.es) ∧ e.len ≤ e.cap ∧ e.cap ≤ maxL ∧ (e.a = none → e.cap = 0) ∧
    ∀ b o, e.a = some (b, o) → e.len < e.cap → g.lim b = some (o + e.len * e.es) ∧
      ∃ c el fr, w.heap[b]? = some (.cells c el fr) ∧ o + e.cap * e.es ≤ c.size ∧ (fr.1 = fr.2 ∨ c.size ≤ fr.1)
  tinj : ∀ (t u : Nat) e e' b o o', g.toks[t]? = some e → g.toks[u]? = some e' → e.a = some (b, o) → e'.a = some (b, o') → e.len < e.cap → e'.len < e'.cap → t = u

/-! ### Operands -/

def absV : Value → AV
  | .bool b => .bool b
  | .int k n => .int k n
  | .string s => if s.data.size ≤ maxL then .str s.data.toList else .undef
  | .pointer none => .ptr none
  | .slice none 0 0 => .slice .full []
  | .map none => .mp none
  | .nilFunc => .nilFn
  | .nilIface => .nilIface
  | _ => .undef

abbrev Env := Nat → AV

def Env.put (τ : Env) (d : Nat) (v : AV) : Env := fun t => if t = d then v else τ t

def Env.putO (τ : Env) : Option Nat → AV → Env
  | some d, v => τ.put d v
  | none, _ => τ

def ev (τ : Env) : Operand → AV
  | .tmp t => τ t
  | .const v => absV v
  | .global _ => .undef
  | .func f => .fn (.func f) [] []

def relE (g : G) (w : World) (τ : Env) (tmps : Array Value) : Prop := ∀ t, relV g w (τ t) (tmps.getD t Go.undef)

theorem relC_nil (g : G) (w : World) : relC g w (.slice .full []) [.slice none 0 0] := by
  simp only [relC]
  exact ⟨none, none, 0, 0, [], rfl, .inl rfl, by simp [relEs], Nat.le_refl _, by decide, fun _ => rfl, fun b o h => by simp at h, rfl⟩

theorem absV_rel (g : G) (w : World) (v : Value) : relV g w (absV v) v := by
  have mk : ∀ {a : AV} {v : Value}, relC g w a v.cells.toList → a.isAgg = vAgg v → relV g w a v := fun h1 h2 => .inr (.inr ⟨h1, h2⟩)
  unfold absV
  split
  · exact mk (by simp [relC, Value.cells]) rfl
  · exact mk (by simp [relC, Value.cells]) rfl
  · split
    · rename_i s h
      exact mk (by simp only [relC, Value.cells]; exact ⟨trivial, by simpa using h⟩) rfl
    · exact .inl rfl
  · exact mk (by simp [relC, Value.cells]) rfl
  · exact mk (relC_nil g w) rfl
  · exact mk (by simp [relC, Value.cells]) rfl
  · exact mk (by simp [relC, Value.cells]) rfl
  · exact mk (by simp [relC, Value.cells]) rfl
  · exact .inl rfl

theorem ev_rel {g : G} {w : World} {τ : Env} {a : Act} (h : relE g w τ a.tmps) (x : Operand) : relV g w (ev τ x) (a.eval x) := by
  cases x with
  | tmp t => exact h t
  | const v => exact absV_rel g w v
  | global _ => exact .inl rfl
  | func f => refine .inr (.inr ⟨?_, rfl⟩); simp only [ev, Act.eval, relC, Value.cells]; exact ⟨#[], #[], rfl, by simp [relVs], by simp [relVs]⟩

theorem relE_mono {g g' : G} {w w' : World} (h : Ev g w g' w') {τ : Env} {tmps : Array Value} (hr : relE g w τ tmps) : relE g' w' τ tmps := fun t => relV_mono h (hr t)

theorem relE_put {g : G} {w : World} {τ : Env} {a : Act} (h : relE g w τ a.tmps) {d : Option Nat} (hd : ∀ k, d = some k → k < a.tmps.size) {v : AV} {x : Value} (hv : relV g w v x) :
    relE g w (τ.putO d v) (a.put d x).tmps := by
  cases d with
  | none => exact h
  | some k =>
    intro t
    have hk := hd k rfl
    simp only [Env.putO, Env.put, Act.put]
    by_cases e : t = k
    · subst e; simp [Array.getD, hk, hv]
    · have h1 := h t
      simp only [if_neg e]
      have : (a.tmps.setIfInBounds k x).getD t Go.undef = a.tmps.getD t Go.undef := by
        simp only [Array.getD, Array.size_setIfInBounds]
        split
        · rename_i ht
          simp only [Array.getElem_setIfInBounds ht, Array.getInternal_eq_getElem]
          rw [if_neg (fun h => e h.symm)]
        · rfl
      rw [this]; exact h1


/-! ### Calls -/

def FnOk (P : Program) (f : FuncId) : Prop := ∃ fn, P.funcs[f]? = some fn ∧ (fn.name == "runtime.NumGoroutine") = false ∧ fn.body.isNone = false

def relA (g : G) (w : World) (args : List AV) (xs : List Value) : Prop :=
  args.length = xs.length ∧ ∀ (i : Nat) v x, args[i]? = some v → xs[i]? = some x → relV g w v x

def TCalls (P : Program) (f : FuncId) (args : List AV) (σ : AST) (K : AV → AST → Prop) : Prop :=
  FnOk P f ∧ ∀ (g : G) (w : World) (xs : Array Value), Inv g σ w → relA g w args xs.toList →
    Calls P f xs w fun e w' => ∃ x g' v σ', e = .returned x ∧ Ev g w g' w' ∧ Inv g' σ' w' ∧ relV g' w' v x ∧ K v σ'

theorem TCalls.mono {P : Program} {f : FuncId} {args : List AV} {σ : AST} {K K' : AV → AST → Prop} (h : TCalls P f args σ K) (hk : ∀ v σ', K v σ' → K' v σ') : TCalls P f args σ K' :=
  ⟨h.1, fun g w xs hI hr => (h.2 g w xs hI hr).mono fun e w' ⟨x, g', v, σ', he, h1, h2, h3, h4⟩ => ⟨x, g', v, σ', he, h1, h2, h3, hk _ _ h4⟩⟩

def YCalls (P : Program) (l : Nat) (args : List AV) (σ : AST) (K : AV → AST → Prop) : Prop :=
  ∀ (g : G) (w : World) (xs : Array Value), Inv g σ w → relA g w args xs.toList →
    YieldAt Fence.wide 0 P l xs w fun e w' => ∃ x g' v σ', e = .returned x ∧ Ev g w g' w' ∧ Inv g' σ' w' ∧ relV g' w' v x ∧ K v σ'

theorem YCalls.mono {P : Program} {l : Nat} {args : List AV} {σ : AST} {K K' : AV → AST → Prop} (h : YCalls P l args σ K) (hk : ∀ v σ', K v σ' → K' v σ') : YCalls P l args σ K' :=
  fun g w xs hI hr => by
    obtain ⟨fn, tmps, assign, body, hy, hR⟩ := h g w xs hI hr
    exact ⟨fn, tmps, assign, body, hy, hR.mono fun e w' ⟨x, g', v, σ', he, h1, h2, h3, h4⟩ => ⟨x, g', v, σ', he, h1, h2, h3, hk _ _ h4⟩⟩

/-! ### Types -/

def aggT (P : Program) (t : TypeId) : Option Bool :=
  (P.underlying t).map fun | .struct _ | .array _ _ => true | _ => false

def fits (P : Program) (t : TypeId) (v : AV) : Prop := aggT P t = some v.isAgg ∧ P.cellsOf t = v.size

def placeOf (P : Program) (t : TypeId) (i : Nat) : Option (Nat × TypeId) :=
  match P.underlying t with
  | some (.struct fs) => (fs[i]?).map fun f => (f.offset, f.type)
  | some (.array n e) => if i < n then some (i * P.cellsOf e, e) else none
  | _ => none

def partIs (P : Program) (t : TypeId) (ps : List AV) (i : Nat) (v : AV) : Prop :=
  ∃ T, placeOf P t i = some (AV.sizes (ps.take i), T) ∧ fits P T v

def isU8 (P : Program) (e : TypeId) : Bool := match P.underlying e with | some (.int .u8) => true | _ => false

def zeroA (P : Program) : Nat → TypeId → AV
  | 0, _ => .undef
  | n + 1, t => match P.underlying t with
    | some .bool => .bool false
    | some (.int k) => .int k 0
    | some .string => .str []
    | some (.pointer _) => .ptr none
    | some (.slice _) => .slice .full []
    | some (.map _ _) => .mp none
    | some (.func _ _ _) => .nilFn
    | some (.interface _) => .nilIface
    | some (.struct fs) => .agg (fs.toList.map fun f => zeroA P n f.type)
    | some (.array k e) => if k = 32 ∧ isU8 P e = true then .dig ⟨List.replicate 32 0, by simp⟩ else .agg (List.replicate k (zeroA P n e))
    | _ => .undef

mutual
def conc : AV → Option (List Value)
  | .bool b => some [.bool b]
  | .int k n => some [.int k n]
  | .str s => if s.length ≤ maxL then some [.string ⟨s.toArray⟩] else none
  | .ptr none => some [.pointer none]
  | .slice .full [] => some [.slice none 0 0]
  | .mp none => some [.map none]
  | .nilFn => some [.nilFunc]
  | .nilIface => some [.nilIface]
  | .dig d => some (d.l.map fun b => .int .u8 b.toNat)
  | .agg ps => concs ps
  | _ => none
def concs : List AV → Option (List Value)
  | [] => some []
  | p :: ps => match conc p, concs ps with
    | some a, some b => some (a ++ b)
    | _, _ => none
end

def ZeroOf (P : Program) (t : TypeId) (v : AV) : Prop :=
  ∃ i z, P.info? t = some i ∧ i.zero = some z ∧ conc v = some z.cells.toList ∧ v.isAgg = vAgg z ∧ i.size = v.size

mutual
theorem conc_rel (g : G) (w : World) : ∀ {v : AV} {cs : List Value}, conc v = some cs → relC g w v cs
  | .bool _, cs, h | .int _ _, cs, h | .nilFn, cs, h | .nilIface, cs, h | .ptr none, cs, h | .mp none, cs, h | .dig _, cs, h => by
    simp only [conc, Option.some.injEq] at h; subst h; simp only [relC]
  | .str s, cs, h => by
    simp only [conc] at h; split at h
    · rename_i hl; cases h; simp only [relC]; exact ⟨trivial, hl⟩
    · cases h
  | .slice .full [], cs, h => by
    simp only [conc, Option.some.injEq] at h; subst h; exact relC_nil g w
  | .agg ps, cs, h => by simp only [conc] at h; simp only [relC]; exact concs_rel g w h
  | .undef, cs, h | .ptr (some _), cs, h | .slice .none _, cs, h | .slice (.own _) _, cs, h | .slice .full (_ :: _), cs, h | .lit _, cs, h | .eptr _, cs, h | .mp (some _), cs, h | .fn _ _ _, cs, h | .tuple _, cs, h | .iface _ _, cs, h => by
    simp [conc] at h
theorem concs_rel (g : G) (w : World) : ∀ {ps : List AV} {cs : List Value}, concs ps = some cs → relPs g w ps cs
  | [], cs, h => by simp only [concs, Option.some.injEq] at h; subst h; simp [relPs]
  | p :: ps, cs, h => by
    simp only [concs] at h
    split at h
    · rename_i a b ha hb; cases h; simp only [relPs]; exact ⟨a, b, rfl, conc_rel g w ha, concs_rel g w hb⟩
    · cases h
end

def AV.known : AV → Bool
  | .undef | .tuple _ => false
  | _ => true

/-! ### What operations do -/

def setOk : AV → List Nat → AV → Prop
  | _, [], _ => True
  | .agg ps, i :: p, x => ∀ v, ps[i]? = some v → setOk v p x
  | .dig _, [_], .int k n => k = .u8 ∧ 0 ≤ n ∧ n < 256
  | _, _ :: _, _ => False



def boolW (v : AV) (T E : Prop) : Prop := match v with
  | .bool b => (b = true → T) ∧ (b = false → E)
  | _ => False

def loadW (P : Program) (σ : AST) (t : TypeId) (a : AV) (K : AV → Prop) : Prop := match a with
  | .ptr (some (i, p)) => match σ.objs[i]? with
    | some (.cells v) => match v.at p with
      | some x => fits P t x ∧ K x
      | none => False
    | _ => False
  | .eptr v => fits P t v ∧ K v
  | _ => False

def storeW (P : Program) (σ : AST) (t : TypeId) (a x : AV) (K : AST → Prop) : Prop := match a with
  | .ptr (some (i, p)) => match σ.objs[i]? with
    | some (.cells v) => match v.at p with
      | some u => fits P t x ∧ x.shape = u.shape ∧ x.known = true ∧ setOk v p x ∧ K (σ.set i (.cells (v.setAt p x)))
      | none => False
    | _ => False
  | _ => False

def fieldAddrW (P : Program) (σ : AST) (t : TypeId) (a : AV) (i : Nat) (K : AV → Prop) : Prop := match a with
  | .ptr (some (j, p)) => match σ.objs[j]? with
    | some (.cells v) => match v.at p with
      | some (.agg ps) => match ps[i]? with
        | some x => partIs P t ps i x ∧ 0 < x.size ∧ K (.ptr (some (j, p ++ [i])))
        | none => False
      | _ => False
    | _ => False
  | .eptr (.agg ps) => match ps[i]? with
    | some x => partIs P t ps i x ∧ 0 < x.size ∧ K (.eptr x)
    | none => False
  | _ => False

def fieldW (P : Program) (t : TypeId) (a : AV) (i : Nat) (K : AV → Prop) : Prop := match a with
  | .agg ps => match ps[i]? with
    | some x => partIs P t ps i x ∧ K x
    | none => False
  | _ => False

def u8s (l : List UInt8) : List AV := l.map fun b => .int .u8 b.toNat

def nthW {α : Type} (l : List α) (n : Int) (K : α → Prop) : Prop := 0 ≤ n ∧ n < l.length ∧ ∀ x, l[n.toNat]? = some x → K x

def indexW (P : Program) (t : TypeId) (a i : AV) (K : AV → Prop) : Prop := match i with
  | .int _ n => match a with
    | .str s => P.underlying t = some .string ∧ nthW s n fun b => K (.int .u8 b.toNat)
    | .dig d => (∃ e, P.underlying t = some (.array 32 e) ∧ fits P e (.int .u8 0)) ∧ nthW d.l n fun b => K (.int .u8 b.toNat)
    | .agg ps => nthW ps n fun x => partIs P t ps n.toNat x ∧ (∃ e, P.underlying t = some (.array ps.length e)) ∧ K x
    | _ => False
  | _ => False

def indexAddrW (P : Program) (σ : AST) (t : TypeId) (a i : AV) (K : AV → Prop) : Prop := match i with
  | .int _ n => match a with
    | .slice _ xs => ∃ e, P.underlying t = some (.slice e) ∧ nthW xs n fun x => fits P e x ∧ 0 < x.size ∧ K (.eptr x)
    | .ptr (some (j, p)) => match σ.objs[j]? with
      | some (.cells v) => match v.at p with
        | some (.agg ps) => nthW ps n fun x => partIs P t ps n.toNat x ∧ (∃ e, P.underlying t = some (.array ps.length e)) ∧ K (.ptr (some (j, p ++ [n.toNat])))
        | some (.dig d) => nthW d.l n fun x => (∃ e, P.underlying t = some (.array 32 e) ∧ fits P e (.int .u8 0)) ∧ K (.ptr (some (j, p ++ [n.toNat])))
        | _ => False
      | _ => False
    | .eptr (.agg ps) => nthW ps n fun x => partIs P t ps n.toNat x ∧ (∃ e, P.underlying t = some (.array ps.length e)) ∧ K (.eptr x)
    | .arr j p m => match σ.objs[j]? with
      | some (.cells v) => match v.at p with
        | some (.agg ps) => ∃ e, P.underlying t = some (.slice e) ∧ m ≤ ps.length ∧ AV.sizes (ps.take n.toNat) = n.toNat * P.cellsOf e ∧ nthW (ps.take m) n fun x => fits P e x ∧ K (.ptr (some (j, p ++ [n.toNat])))
        | _ => False
      | _ => False
    | _ => False
  | _ => False

def Built (P : Program) (t : TypeId) : Prop := match P.underlying t with
  | some (.struct fs) => fs.toList.all (fun f => (P.info? f.type).isSome) = true
  | some (.array _ e) => (P.info? e).isSome = true
  | _ => False

def fillW (P : Program) (t : TypeId) : List (Nat × AV) → AV → (AV → Prop) → Prop
  | [], v, K => K v
  | (i, x) :: r, .agg ps, K => ∃ u, ps[i]? = some u ∧ partIs P t ps i x ∧ u.shape = x.shape ∧ x.known = true ∧ fillW P t r (.agg (ps.set i x)) K
  | (i, .int .u8 n) :: r, .dig d, K => (∃ e, P.underlying t = some (.array 32 e) ∧ fits P e (.int .u8 0)) ∧ i < 32 ∧ 0 ≤ n ∧ n < 256 ∧ fillW P t r (.dig (d.set i n)) K
  | _, _, _ => False

def buildSliceW (P : Program) (t : TypeId) (len : Nat) (parts : List (Nat × AV)) (K : AV → Prop) : Prop :=
  ∃ e, P.underlying t = some (.slice e) ∧ parts.map (·.1) = List.range len ∧ len * P.cellsOf e ≤ 16777216 ∧ (∀ v ∈ parts.map (·.2), fits P e v ∧ v.known = true) ∧ (∃ z, ZeroOf P e z) ∧ 0 < P.cellsOf e ∧
    (K (.slice .full (parts.map (·.2))) ∨ 0 < len ∧ K (.slice .lit (parts.map (·.2))))

def intW (op : BinOp) (k : IntKind) (a b : Int) (K : AV → Prop) : Prop := match op with
  | .add => K (.int k (k.wrap (a + b)))
  | .sub => K (.int k (k.wrap (a - b)))
  | .mul => K (.int k (k.wrap (a * b)))
  | .quo => b ≠ 0 ∧ K (.int k (k.wrap (a.tdiv b)))
  | .rem => b ≠ 0 ∧ K (.int k (a.tmod b))
  | .eql => K (.bool (a == b))
  | .neq => K (.bool (a != b))
  | .lss => K (.bool (a < b))
  | .leq => K (.bool (a ≤ b))
  | .gtr => K (.bool (a > b))
  | .geq => K (.bool (a ≥ b))
  | _ => False

def strW (op : BinOp) (a b : List UInt8) (K : AV → Prop) : Prop := match op with
  | .add => a.length + b.length ≤ maxL ∧ K (.str (a ++ b))
  | .eql => K (.bool (a == b))
  | .neq => K (.bool !(a == b))
  | .lss => K (.bool (Op.bytesLess a b))
  | .leq => K (.bool (Op.bytesLess a b || a == b))
  | .gtr => K (.bool !(Op.bytesLess a b || a == b))
  | .geq => K (.bool !(Op.bytesLess a b))
  | _ => False

def isI64 (P : Program) (e : TypeId) : Bool := match P.underlying e with | some (.int .i64) => true | _ => false
def i64s : List AV → Option (List Int)
  | [] => some []
  | .int .i64 n :: r => (i64s r).map (n :: ·)
  | _ :: _ => none
def eqI (xs ys : List AV) : Option Bool := match i64s xs, i64s ys with
  | some a, some b => some (a == b)
  | _, _ => none
mutual
def eqA (P : Program) : Nat → TypeId → AV → AV → Option Bool
  | 0, _, _, _ => none
  | n + 1, t, x, y => match P.underlying t, x, y with
    | some .bool, .bool a, .bool b => some (a == b)
    | some (.int _), .int k a, .int k' b => if k = k' then some (a == b) else none
    | some .string, .str a, .str b => some (a == b)
    | some (.array 32 e), .dig a, .dig b => if isU8 P e = true ∧ P.cellsOf e = 1 ∧ 3 ≤ n then some (a.l == b.l) else none
    | some (.array k e), .agg xs, .agg ys => if isI64 P e = true ∧ P.cellsOf e = 1 ∧ 3 ≤ n ∧ xs.length = k ∧ ys.length = k then eqI xs ys else none
    | some (.struct fs), .agg xs, .agg ys => if P.stoodInHeld t = false then eqAs P n t 0 fs.toList xs ys xs ys else none
    | some (.pointer _), .ptr none, .ptr b => some b.isNone
    | some (.pointer _), .ptr a, .ptr none => some a.isNone
    | _, _, _ => none
def eqAs (P : Program) : Nat → TypeId → Nat → List Field → List AV → List AV → List AV → List AV → Option Bool
  | 0, _, _, _, _, _, _, _ => none
  | _ + 1, _, _, [], _, _, _, _ => some true
  | n + 1, t, i, f :: fs, x :: xs, y :: ys, ax, ay =>
    if f.name ≠ "_" ∧ f.offset = AV.sizes (ax.take i) ∧ f.offset = AV.sizes (ay.take i) ∧ aggT P f.type = some x.isAgg ∧ P.cellsOf f.type = x.size ∧ aggT P f.type = some y.isAgg ∧ P.cellsOf f.type = y.size then
      match eqA P n f.type x y with
      | some true => eqAs P n t (i + 1) fs xs ys ax ay
      | some false => some false
      | none => none
    else none
  | _, _, _, _, _, _, _, _ => none
end
def eqW (op : BinOp) (r : Option Bool) (K : AV → Prop) : Prop := match op with
  | .eql => ∃ b, r = some b ∧ K (.bool b)
  | .neq => ∃ b, r = some b ∧ K (.bool !b)
  | _ => False

def binW (P : Program) (op : BinOp) (t : TypeId) (x y : AV) (K : AV → Prop) : Prop := match x, y with
  | .int k a, .int k' b => k = k' ∧ intW op k a b K
  | .str a, .str b => strW op a b K
  | .bool a, .bool b => eqW op (eqA P 40 t (.bool a) (.bool b)) K
  | .ptr a, .ptr b => eqW op (eqA P 40 t (.ptr a) (.ptr b)) K
  | .agg a, .agg b => P.eqGuardType P.depth t = false ∧ eqW op (eqA P 40 t (.agg a) (.agg b)) K
  | .dig a, .dig b => P.eqGuardType P.depth t = false ∧ eqW op (eqA P 40 t (.dig a) (.dig b)) K
  | _, _ => False

def unW (op : UnOp) (x : AV) (K : AV → Prop) : Prop := match op, x with
  | .not, .bool b => K (.bool !b)
  | .neg, .int k n => K (.int k (k.wrap (0 - n)))
  | _, _ => False

def unU8 : List AV → Option (List UInt8)
  | [] => some []
  | .int .u8 n :: r => (unU8 r).map (UInt8.ofNat n.toNat :: ·)
  | _ :: _ => none

def convW (P : Program) (s d : TypeId) (x : AV) (σ : AST) (K : AV → AST → Prop) : Prop := match x with
  | .int _ n => ∃ k, P.underlying d = some (.int k) ∧ (∃ u, P.underlying s = some u) ∧ K (.int k (k.wrap n)) σ
  | .str l => (P.underlying d = some .string ∧ P.underlying s = some .string ∧ K (.str l) σ) ∨
      (∃ e, P.underlying d = some (.slice e) ∧ P.underlying e = some (.int .u8) ∧ P.underlying s = some .string ∧ K (.slice (.own σ.toks.length) (u8s l)) (σ.tok l.length 1))
  | .slice tk xs => (∃ e l, P.underlying s = some (.slice e) ∧ P.underlying e = some (.int .u8) ∧ P.underlying d = some .string ∧ unU8 xs = some l ∧ K (.str l) σ) ∨
      (tk = .lit ∧ s = d ∧ ∃ e, P.underlying s = some (.slice e) ∧ P.underlying e = some (.int .u8) ∧ K (.slice .full xs) σ)
  | .arr i p n => match σ.objs[i]? with
    | some (.cells v) => match v.at p with
      | some (.dig dg) => n = 32 ∧ ∃ e, P.underlying s = some (.slice e) ∧ P.underlying e = some (.int .u8) ∧ P.underlying d = some .string ∧ K (.str dg.l) σ
      | _ => False
    | _ => False
  | _ => False

def copyW (P : Program) (ts : Array TypeId) (dst src : AV) (σ : AST) (K : AV → AST → Prop) : Prop := ∃ t e, ts[0]? = some t ∧ P.underlying t = some (.slice e) ∧ P.cellsOf e = 1 ∧ (∃ u, P.underlying e = some u) ∧ match dst, src with
  | .arr i p n, .str l => match σ.objs[i]? with
    | some (.cells v) => match v.at p with
      | some (.dig dg) => n = 32 ∧ ∃ h : l.length = 32, setOk v p (.dig ⟨l, h⟩) ∧ K (.int .i64 32) (σ.set i (.cells (v.setAt p (.dig ⟨l, h⟩))))
      | _ => False
    | _ => False
  | _, _ => False

theorem copyW_mono {P : Program} {ts : Array TypeId} {a b : AV} {σ : AST} {K K' : AV → AST → Prop} (hk : ∀ v σ', K v σ' → K' v σ') (h : copyW P ts a b σ K) : copyW P ts a b σ K' := by
  obtain ⟨t, e, h1, h2, h3, h4, h⟩ := h
  refine ⟨t, e, h1, h2, h3, h4, ?_⟩
  split at h
  · rename_i i p n l
    split at h
    · rename_i v hobj
      split at h
      · rename_i dg hat
        obtain ⟨h5, h6, h7, h8⟩ := h
        exact ⟨h5, h6, h7, hk _ _ h8⟩
      · exact h.elim
    · exact h.elim
  · exact h.elim
def bndW (v : Option AV) (dflt : Nat) (K : Nat → Prop) : Prop := match v with
  | none => K dflt
  | some (.int _ n) => 0 ≤ n ∧ K n.toNat
  | _ => False

def subTk : Tk → Bool → Tk
  | .full, true => .full
  | _, _ => .none

def arrOfT (P : Program) (t e : TypeId) (n : Nat) : Prop := (∃ a, P.underlying t = some (.pointer a) ∧ P.underlying a = some (.array n e)) ∨ P.underlying t = some (.array n e)
def sliceW (P : Program) (t : TypeId) (x : AV) (lo hi mx : Option AV) (K : AV → Prop) : Prop := match x with
  | .str s => P.underlying t = some .string ∧ mx.isNone = true ∧ bndW lo 0 fun l => bndW hi s.length fun h => l ≤ h ∧ h ≤ s.length ∧ K (.str ((s.take h).drop l))
  | .slice tk xs => ∃ e, P.underlying t = some (.slice e) ∧ (∀ v ∈ xs, v.size = P.cellsOf e) ∧ (∃ d, P.underlying e = some d) ∧ bndW lo 0 fun l => bndW hi xs.length fun h => l ≤ h ∧ h ≤ xs.length ∧
      match mx with
      | none => K (.slice (subTk tk (h == xs.length)) ((xs.take h).drop l))
      | some (.int _ m) => m = h ∧ hi.isSome = true ∧ K (.slice .full ((xs.take h).drop l))
      | _ => False
  | .ptr (some (i, p)) => ∃ e n, arrOfT P t e n ∧ n ≤ maxL ∧ (∃ d, P.underlying e = some d) ∧ mx.isNone = true ∧ lo.isNone = true ∧ bndW hi n fun h => h ≤ n ∧ K (.arr i p h)
  | _ => False

def elemsOf (P : Program) (t : TypeId) : AV → Option (List AV)
  | .slice _ ys => match P.underlying t with
    | some (.slice _) => some ys
    | _ => none
  | .str s => match P.underlying t with
    | some .string => some (u8s s)
    | _ => none
  | _ => none

def appendW0 (P : Program) (ts : Array TypeId) (s x : AV) (σ : AST) (K : AV → AST → Prop) : Prop :=
  ∃ t u e xs tk ys, ts[0]? = some t ∧ ts[1]? = some u ∧ P.underlying t = some (.slice e) ∧ s = .slice tk xs ∧ elemsOf P u x = some ys ∧ (∃ z, ZeroOf P e z) ∧ (∀ v ∈ ys, v.size = P.cellsOf e) ∧
    (xs.length + ys.length) * P.bytesOf e ≤ 140737488355328 ∧ xs.length + ys.length ≤ maxL ∧
    match tk with
    | .full => (∀ v ∈ xs, v.size = P.cellsOf e) ∧ K (.slice (.own σ.toks.length) (xs ++ ys)) (σ.tok (xs.length + ys.length) (P.cellsOf e))
    | .own k => σ.toks[k]? = some (xs.length, P.cellsOf e) ∧ K (.slice (.own k) (xs ++ ys)) (σ.setTok k (xs.length + ys.length) (P.cellsOf e))
    | .none | .lit => False

def appendL (P : Program) (ts : Array TypeId) (s x : AV) (σ : AST) (K : AV → AST → Prop) : Prop :=
  ∃ t u e y, ts[0]? = some t ∧ ts[1]? = some u ∧ P.underlying t = some (.slice e) ∧ elemsOf P u x = some [.int .i64 y] ∧ (∃ z, ZeroOf P e z ∧ z.size = 1) ∧ match s with
    | .slice .full xs => xs = [] ∧ P.bytesOf e ≤ 140737488355328 ∧ ∀ b c cs, cs[0]? = some (.int .i64 y) → cs.size = c → 1 ≤ c → c ≤ maxL →
        K (.lit (.slice (some ⟨b, 0, none⟩) 1 c)) (σ.push (.pin b (.cells cs e) [] []))
    | .lit (.slice (some a) n c) => ∃ i cs, a.off = 0 ∧ a.spot = none ∧ σ.objs[i]? = some (.pin a.block (.cells cs e) [] []) ∧ cs.size = c ∧ n ≤ c ∧ c ≤ maxL ∧ (n + 1) * P.bytesOf e ≤ 140737488355328 ∧ n + 1 ≤ maxL ∧
        (n < c → K (.lit (.slice (some a) (n + 1) c)) (σ.set i (.pin a.block (.cells (cs.setIfInBounds n (.int .i64 y)) e) [] []))) ∧
        ∀ b c' cs', (∀ j, j < n → cs'[j]? = cs[j]?) → cs'[n]? = some (.int .i64 y) → cs'.size = c' → n + 1 ≤ c' → c' ≤ maxL →
          K (.lit (.slice (some ⟨b, 0, none⟩) (n + 1) c')) (σ.push (.pin b (.cells cs' e) [] []))
    | _ => False
def appendW (P : Program) (ts : Array TypeId) (s x : AV) (σ : AST) (K : AV → AST → Prop) : Prop := appendW0 P ts s x σ K ∨ appendL P ts s x σ K

def lenW (P : Program) (σ : AST) (ts : Array TypeId) (x : AV) (K : AV → Prop) : Prop := ∃ t, ts[0]? = some t ∧ match x with
  | .str s => P.underlying t = some .string ∧ (s.length ≤ maxL → K (.int .i64 s.length))
  | .slice _ xs => (∃ e, P.underlying t = some (.slice e)) ∧ (xs.length ≤ maxL → K (.int .i64 xs.length))
  | .arr _ _ n => (∃ e, P.underlying t = some (.slice e)) ∧ (n ≤ maxL → K (.int .i64 n))
  | .mp none => (∃ k e, P.underlying t = some (.map k e)) ∧ K (.int .i64 0)
  | .mp (some i) => (∃ k e, P.underlying t = some (.map k e)) ∧ match σ.objs[i]? with
    | some (.map es _) => es.length ≤ maxL ∧ K (.int .i64 es.length)
    | _ => False
  | _ => False

/-! ### Maps, makes -/
mutual
def keyOk (P : Program) : Nat → TypeId → AV → Bool
  | 0, _, _ => false
  | n + 1, t, x => match P.underlying t, x with
    | some .bool, .bool _ => true
    | some (.int _), .int _ _ => true
    | some .string, .str _ => true
    | some (.struct fs), .agg xs => keyOks P n 0 fs.toList xs xs
    | _, _ => false
def keyOks (P : Program) : Nat → Nat → List Field → List AV → List AV → Bool
  | 0, _, _, _, _ => false
  | _ + 1, _, [], [], _ => true
  | n + 1, i, f :: fs, x :: xs, ax => decide (f.name ≠ "_" ∧ f.offset = AV.sizes (ax.take i) ∧ aggT P f.type = some x.isAgg ∧ P.cellsOf f.type = x.size) && keyOk P n f.type x && keyOks P n (i + 1) fs xs ax
  | _, _, _, _, _ => false
end
def eqK (P : Program) (kt : TypeId) (k k' : AV) : Option Bool := if keyOk P 40 kt k' = true then eqA P 40 kt k k' else none
def findE (P : Program) (kt : TypeId) (k : AV) : List (Nat × AV × AV) → Option (Option Nat)
  | [] => some none
  | e :: es => match eqK P kt k e.2.1 with
    | some true => some (some 0)
    | some false => (findE P kt k es).map (Option.map (· + 1))
    | none => none
def okV (ok b : Bool) (v : AV) : AV := if ok then .tuple [v, .bool b] else v
def lookupW (P : Program) (σ : AST) (t : TypeId) (x k : AV) (ok : Bool) (K : AV → Prop) : Prop :=
  ∃ kt et, P.underlying t = some (.map kt et) ∧ keyOk P 40 kt k = true ∧ match x with
  | .mp none => ZeroOf P et (zeroA P 12 et) ∧ K (okV ok false (zeroA P 12 et))
  | .mp (some i) => match σ.objs[i]? with
    | some (.map es _) => ∃ r, findE P kt k es = some r ∧ match r with
      | some j => ∀ e, es[j]? = some e → K (okV ok true e.2.2)
      | none => ZeroOf P et (zeroA P 12 et) ∧ K (okV ok false (zeroA P 12 et))
    | _ => False
  | _ => False
def mapUpdateW (P : Program) (σ : AST) (t : TypeId) (m k v : AV) (K : AST → Prop) : Prop :=
  ∃ kt et, P.underlying t = some (.map kt et) ∧ keyOk P 40 kt k = true ∧ v.known = true ∧ match m with
  | .mp (some i) => match σ.objs[i]? with
    | some (.map es ck) => ∃ r, findE P kt k es = some r ∧ match r with
      | some j => K (σ.set i (.map (es.modify j fun e => (e.1, k, v)) ck))
      | none => K (σ.set i (.map (es ++ [(ck, k, v)]) (ck + 1)))
    | _ => False
  | _ => False
def mapEntryW (P : Program) (σ : AST) (t : TypeId) (m k : AV) (K : AV → AST → Prop) : Prop :=
  ∃ kt et, P.underlying t = some (.map kt et) ∧ keyOk P 40 kt k = true ∧ match m with
  | .mp (some i) => match σ.objs[i]? with
    | some (.map es ck) => ∃ r, findE P kt k es = some r ∧ match r with
      | some j => ∀ e, es[j]? = some e → K (.tuple [e.2.2, .int .i64 e.1]) (σ.set i (.map (es.modify j fun e => (e.1, k, e.2.2)) ck))
      | none => ZeroOf P et (zeroA P 12 et) ∧ K (.tuple [zeroA P 12 et, .int .i64 ck]) (σ.set i (.map (es ++ [(ck, k, zeroA P 12 et)]) (ck + 1)))
    | _ => False
  | _ => False
def entryStoreW (σ : AST) (m st v : AV) (K : AST → Prop) : Prop := v.known = true ∧ match m, st with
  | .mp (some i), .int _ b => match σ.objs[i]? with
    | some (.map es ck) => ∃ (j : Nat) (e : Nat × AV × AV), es[j]? = some e ∧ (e.1 : Int) = b ∧ K (σ.set i (.map (es.modify j fun e => (e.1, e.2.1, v)) ck))
    | _ => False
  | _, _ => False
def deleteW (P : Program) (ts : Array TypeId) (m k : AV) (σ : AST) (K : AST → Prop) : Prop :=
  ∃ t kt et, ts[0]? = some t ∧ P.underlying t = some (.map kt et) ∧ keyOk P 40 kt k = true ∧ match m with
  | .mp none => K σ
  | .mp (some i) => match σ.objs[i]? with
    | some (.map es ck) => ∃ r, findE P kt k es = some r ∧ match r with
      | some j => K (σ.set i (.map (es.eraseIdx j) ck))
      | none => K σ
    | _ => False
  | _ => False
def clearW (P : Program) (ts : Array TypeId) (m : AV) (σ : AST) (K : AST → Prop) : Prop := (∃ t u, ts[0]? = some t ∧ P.underlying t = some u) ∧ match m with
  | .mp none => K σ
  | .mp (some i) => match σ.objs[i]? with
    | some (.map es ck) => K (σ.set i (.map [] ck))
    | _ => False
  | _ => False
def makeSliceW (P : Program) (t : TypeId) (n c : AV) (σ : AST) (K : AV → AST → Prop) : Prop := match n, c with
  | .int .i64 a, .int .i64 b => 0 ≤ a ∧ a ≤ b ∧ ∃ e z, P.underlying t = some (.slice e) ∧ ZeroOf P e z ∧ 0 < P.cellsOf e ∧ b.toNat * P.bytesOf e ≤ 16777216 ∧ b ≤ 16777216 ∧
      ((a = b ∧ K (.arr σ.objs.length [] a.toNat) (σ.push (.cells (.agg (List.replicate a.toNat z))))) ∨
        (a = b ∧ K (.slice .full (List.replicate a.toNat z)) σ) ∨
        (a = 0 ∧ K (.slice (.own σ.toks.length) []) (σ.tok 0 (P.cellsOf e))))
  | _, _ => False

def mmW (mx : Bool) (xs : List AV) (K : AV → Prop) : Prop := match xs with
  | [.int k a, .int k' b] => k = k' ∧ K (.int k (if mx then max a b else min a b))
  | _ => False

end Go.Aff

