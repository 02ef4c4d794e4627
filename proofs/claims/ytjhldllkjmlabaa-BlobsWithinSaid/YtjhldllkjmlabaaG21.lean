import Derived.Test.YtjhldllkjmlabaaG1
import Derived.Test.YtjhldllkjmlabaaG20
import Derived.Test.YtjhldllkjmlabaaG19

set_option linter.unusedSimpArgs false
set_option linter.unusedVariables false

/- Layer 32, plainly: numbers with two contents. -/
namespace Go.Aff.L32
open Classical
set_option linter.unusedVariables false
variable {α β : Type}
/-- A thing ahead of all others that differ at it alone. -/
theorem countP_step {p q : α → Bool} {k : α} : ∀ {U : List α}, U.Nodup → k ∈ U → p k = false → q k = true → (∀ x, x ≠ k → q x = p x) → U.countP q = U.countP p + 1
  | [], _, h, _, _, _ => by simp at h
  | x :: U, hU, hk, hp, hq, he => by
    obtain ⟨hx, hU⟩ := List.nodup_cons.1 hU
    by_cases e : x = k
    · subst e
      have : U.countP q = U.countP p := List.countP_congr fun y hy => by rw [he y (fun e => hx (e ▸ hy))]
      simp [hp, hq, this]
    · have hk' : k ∈ U := (List.mem_cons.1 hk).resolve_left (fun h => e h.symm)
      have := countP_step hU hk' hp hq he
      simp only [List.countP_cons, he x e, this]; omega
theorem nodup_over : ∀ l : List α, ∃ U : List α, U.Nodup ∧ ∀ x ∈ l, x ∈ U
  | [] => ⟨[], List.nodup_nil, fun x h => h⟩
  | y :: l => by
    obtain ⟨U, hU, h⟩ := nodup_over l
    by_cases e : y ∈ U
    · exact ⟨U, hU, fun x hx => (List.mem_cons.1 hx).elim (fun e' => e' ▸ e) (h x)⟩
    · exact ⟨y :: U, List.nodup_cons.2 ⟨e, hU⟩, fun x hx => (List.mem_cons.1 hx).elim (fun e' => e' ▸ List.mem_cons_self ..) fun h' => List.mem_cons_of_mem _ (h x h')⟩
theorem countP_sub {p : α → Bool} : ∀ {l m : List α}, l.Nodup → (∀ x ∈ l, x ∈ m) → l.countP p ≤ m.countP p
  | [], m, _, _ => by simp
  | x :: l, m, hl, h => by
    obtain ⟨hx, hl⟩ := List.nodup_cons.1 hl
    have hm := List.perm_cons_erase (h x (List.mem_cons_self ..))
    have := countP_sub (p := p) (m := m.erase x) hl fun y hy => (List.mem_erase_of_ne (fun e : y = x => hx (by rw [← e]; exact hy))).2 (h y (List.mem_cons_of_mem _ hy))
    rw [hm.countP_eq p]
    simp only [List.countP_cons]; omega
/-- What came, each once. -/
noncomputable def D (l : List α) : List α := l.foldl (fun d x => if x ∈ d then d else d ++ [x]) []
theorem D_snoc {l : List α} {x : α} : D (l ++ [x]) = if x ∈ D l then D l else D l ++ [x] := by
  unfold D; rw [List.foldl_append]; rfl
theorem snoc_ind {P : List α → Prop} (h0 : P []) (h1 : ∀ l x, P l → P (l ++ [x])) (l : List α) : P l := by
  have : ∀ n (l : List α), l.length = n → P l := by
    intro n
    induction n with
    | zero => intro l hl; rw [List.length_eq_zero_iff.1 hl]; exact h0
    | succ n ih =>
      intro l hl
      have hne : l ≠ [] := by intro e; subst e; simp at hl
      rw [← List.dropLast_concat_getLast hne]
      exact h1 _ _ (ih _ (by simp [hl]))
  exact this _ l rfl
theorem D_mem {l : List α} {y : α} : y ∈ D l ↔ y ∈ l := by
  refine snoc_ind (P := fun l => y ∈ D l ↔ y ∈ l) (by simp [D]) (fun l x ih => ?_) l
  rw [D_snoc, List.mem_append, ← ih, List.mem_singleton]
  split
  · rename_i h; exact ⟨.inl, fun h' => h'.elim id fun e => e ▸ h⟩
  · rw [List.mem_append, List.mem_singleton]
theorem D_nodup {l : List α} : (D l).Nodup := by
  refine snoc_ind (P := fun l => (D l).Nodup) (by simp [D]) (fun l x ih => ?_) l
  rw [D_snoc]
  split
  · exact ih
  · rename_i h
    rw [List.nodup_append]
    exact ⟨ih, by simp, fun a ha b hb => by simp at hb; subst hb; exact fun e => h (e ▸ ha)⟩
/-- How many contents a key has. -/
noncomputable def many (l : List (α × β)) (k : α) : Nat := (D l).countP fun x => decide (x.1 = k)
/-- How many keys have two contents. -/
noncomputable def two (l : List (α × β)) : Nat := l.length.rec 0 fun i n => match l[i]? with
  | none => n
  | some x => if x ∈ l.take i then n else if many (l.take i) x.1 + 1 = 2 then n + 1 else n
noncomputable def twoL (l : List (α × β)) (i : Nat) : Nat := Nat.rec 0 (fun i n => match l[i]? with
  | none => n
  | some x => if x ∈ l.take i then n else if many (l.take i) x.1 + 1 = 2 then n + 1 else n) i
theorem twoL_next {l : List (α × β)} {i : Nat} {x : α × β} (h : l[i]? = some x) : twoL l (i + 1) = if x ∈ l.take i then twoL l i else if many (l.take i) x.1 + 1 = 2 then twoL l i + 1 else twoL l i := by
  show (match l[i]? with
    | none => twoL l i
    | some x => if x ∈ l.take i then twoL l i else if many (l.take i) x.1 + 1 = 2 then twoL l i + 1 else twoL l i) = _
  rw [h]
theorem many_snoc {l : List (α × β)} {x : α × β} {k : α} : many (l ++ [x]) k = if x ∈ l then many l k else many l k + if x.1 = k then 1 else 0 := by
  unfold many
  rw [D_snoc]
  by_cases h : x ∈ l
  · rw [if_pos (D_mem.2 h), if_pos h]
  · rw [if_neg (fun h' => h (D_mem.1 h')), if_neg h, List.countP_append]
    simp [List.countP_cons]
/-- The keys with two contents, among any that hold all keys. -/
theorem twoL_eq {l : List (α × β)} {U : List α} (hU : U.Nodup) (h : ∀ x ∈ l, x.1 ∈ U) : ∀ i ≤ l.length, twoL l i = U.countP fun k => decide (2 ≤ many (l.take i) k)
  | 0, _ => by
    have : (U.countP fun k => decide (2 ≤ many (l.take 0) k)) = 0 := List.countP_eq_zero.2 fun k _ => by simp [many, D]
    rw [this]; rfl
  | i + 1, hi => by
    have ih := twoL_eq hU h i (by omega)
    obtain ⟨x, hx⟩ : ∃ x, l[i]? = some x := ⟨l[i], List.getElem?_eq_getElem (by omega)⟩
    have hm : l.take (i + 1) = l.take i ++ [x] := by rw [List.take_add_one, hx]; rfl
    rw [twoL_next hx, hm]
    by_cases e : x ∈ l.take i
    · rw [if_pos e, ih]
      refine List.countP_congr fun k _ => ?_
      rw [many_snoc, if_pos e]
    · rw [if_neg e]
      have hms : ∀ k, many (l.take i ++ [x]) k = many (l.take i) k + if x.1 = k then 1 else 0 := fun k => by rw [many_snoc, if_neg e]
      by_cases e2 : many (l.take i) x.1 + 1 = 2
      · rw [if_pos e2, ih]
        symm
        refine countP_step (k := x.1) hU (h x (List.mem_of_getElem? hx)) ?_ ?_ fun y hy => ?_
        · simp; omega
        · rw [hms, if_pos rfl]; simp; omega
        · rw [hms, if_neg (fun e => hy e.symm)]; rfl
      · rw [if_neg e2, ih]
        refine List.countP_congr fun k _ => ?_
        rw [hms]
        by_cases ek : x.1 = k
        · subst ek; rw [if_pos rfl]; simp; omega
        · rw [if_neg ek]; rfl
noncomputable def twos (l : List (α × β)) : Nat := twoL l l.length
theorem many_mono {l m : List (α × β)} (h : ∀ x ∈ l, x ∈ m) (k : α) : many l k ≤ many m k := countP_sub D_nodup fun x hx => D_mem.2 (h x (D_mem.1 hx))
theorem twos_mono {l m : List (α × β)} (h : ∀ x ∈ l, x ∈ m) : twos l ≤ twos m := by
  obtain ⟨U, hU, hm⟩ := nodup_over (m.map (·.1))
  have h1 : ∀ x ∈ m, x.1 ∈ U := fun x hx => hm _ (List.mem_map_of_mem hx)
  unfold twos
  rw [twoL_eq hU (fun x hx => h1 x (h x hx)) _ (Nat.le_refl _), twoL_eq hU h1 _ (Nat.le_refl _), List.take_length, List.take_length]
  refine List.countP_mono_left fun k _ hk => ?_
  have := many_mono h k
  simp at hk ⊢; omega
theorem twos_same {l m : List (α × β)} (h : ∀ x, x ∈ l ↔ x ∈ m) : twos l = twos m := Nat.le_antisymm (twos_mono fun x hx => (h x).1 hx) (twos_mono fun x hx => (h x).2 hx)
end Go.Aff.L32

/- Layer 11, plainly: stores of blobs. -/
namespace Go.Aff.L10
open Go.Proofs Go.Aff Go.Aff.L01 Classical
set_option linter.unusedVariables false
set_option linter.unusedSimpArgs false
def Blob.Rt (b : Blob) : Prop := 0 ≤ b.owner ∧ b.owner < 8 ∧ 0 ≤ b.num ∧ b.num ≤ 1099511627776 ∧ b.cipher.length ≤ 4096
noncomputable section
def isB (o n : Int) (b : Blob) : Bool := decide (b.owner = o ∧ b.num = n)
def bfind (B : List Blob) (o n : Int) : Option Nat := B.findIdx? (isB o n)
def usedN (B : List Blob) (o : Int) : Nat := B.countP fun b => decide (b.owner = o)
def lenOf (o : Int) (b : Blob) : Nat := if b.owner = o then b.cipher.length else 0
def usedB (B : List Blob) (o : Int) : Nat := (B.map (lenOf o)).sum
def bput (B : List Blob) (b : Blob) : List Blob × Int :=
  if ¬ b.Rt then (B, 2) else match bfind B b.owner b.num with
  | some i => if B[i]? = some b then (B, 0) else (B, 10)
  | none => if 256 ≤ usedN B b.owner ∨ 32768 < usedB B b.owner + b.cipher.length then (B, 11) else (B ++ [b], 0)
def bprune1 (B : List Blob) (o n : Int) : List Blob × Nat := match bfind B o n with
  | some i => (B.eraseIdx i, 1)
  | none => (B, 0)
def bprune (B : List Blob) (o : Int) (l : List Int) : List Blob × Nat := l.foldl (fun s n => ((bprune1 s.1 o n).1, s.2 + (bprune1 s.1 o n).2)) (B, 0)
end
theorem bfind_some {B : List Blob} {o n : Int} {i : Nat} (h : bfind B o n = some i) : ∃ b, B[i]? = some b ∧ b.owner = o ∧ b.num = n := by
  unfold bfind at h
  obtain ⟨hi, h1, _⟩ := List.findIdx?_eq_some_iff_getElem.1 h
  have := of_decide_eq_true h1
  exact ⟨B[i], List.getElem?_eq_getElem hi, this.1, this.2⟩
theorem bfind_none {B : List Blob} {o n : Int} (h : bfind B o n = none) : ∀ b ∈ B, ¬ (b.owner = o ∧ b.num = n) := by
  unfold bfind at h
  intro b hb hh
  have := List.findIdx?_eq_none_iff.1 h b hb
  simp [isB, hh] at this
theorem usedN_app {A B : List Blob} {o : Int} : usedN (A ++ B) o = usedN A o + usedN B o := by simp [usedN, List.countP_append]
theorem usedB_app {A B : List Blob} {o : Int} : usedB (A ++ B) o = usedB A o + usedB B o := by simp [usedB]
theorem usedN_perm {A B : List Blob} (h : A.Perm B) {o : Int} : usedN A o = usedN B o := h.countP_eq _
theorem usedB_perm {A B : List Blob} (h : A.Perm B) {o : Int} : usedB A o = usedB B o := (h.map _).sum_nat
theorem erase_split {B : List Blob} {i : Nat} {b : Blob} (h : B[i]? = some b) : B = B.take i ++ b :: B.drop (i + 1) ∧ B.eraseIdx i = B.take i ++ B.drop (i + 1) := by
  have hi := (List.getElem?_eq_some_iff.1 h).1
  have hb := (List.getElem?_eq_some_iff.1 h).2
  refine ⟨?_, List.eraseIdx_eq_take_drop_succ ..⟩
  rw [← hb, ← List.drop_eq_getElem_cons hi, List.take_append_drop]
/-- What is so of every store. -/
structure BOk (B : List Blob) : Prop where
  rt : ∀ b ∈ B, b.Rt
  nd : ∀ (i j : Nat) a b, B[i]? = some a → B[j]? = some b → a.owner = b.owner → a.num = b.num → i = j
  n : ∀ o, usedN B o ≤ 256
  b : ∀ o, usedB B o ≤ 32768
theorem BOk.nil : BOk [] := ⟨by simp, by simp, by simp [usedN], by simp [usedB]⟩
theorem count8 : ∀ {B : List Blob}, (∀ b ∈ B, b.Rt) → B.length = usedN B 0 + usedN B 1 + usedN B 2 + usedN B 3 + usedN B 4 + usedN B 5 + usedN B 6 + usedN B 7
  | [], _ => rfl
  | b :: B, h => by
    have ih := count8 (B := B) fun x hx => h x (List.mem_cons_of_mem _ hx)
    obtain ⟨h0, h1, _⟩ := h b (List.mem_cons_self ..)
    have c : ∀ o, usedN (b :: B) o = usedN B o + if b.owner = o then 1 else 0 := fun o => by simp [usedN, List.countP_cons]
    simp only [c, List.length_cons, ih]
    have : b.owner = 0 ∨ b.owner = 1 ∨ b.owner = 2 ∨ b.owner = 3 ∨ b.owner = 4 ∨ b.owner = 5 ∨ b.owner = 6 ∨ b.owner = 7 := by omega
    rcases this with e | e | e | e | e | e | e | e <;> simp [e] <;> omega
theorem BOk.len {B : List Blob} (h : BOk B) : B.length ≤ 2048 := by
  have := count8 h.rt
  have := h.n 0; have := h.n 1; have := h.n 2; have := h.n 3; have := h.n 4; have := h.n 5; have := h.n 6; have := h.n 7
  omega
theorem BOk.find {B : List Blob} (h : BOk B) {i : Nat} {b : Blob} (hb : B[i]? = some b) : bfind B b.owner b.num = some i := by
  cases hf : bfind B b.owner b.num with
  | none => exact absurd ⟨rfl, rfl⟩ (bfind_none hf b (List.mem_of_getElem? hb))
  | some k =>
    obtain ⟨c, hc, h1, h2⟩ := bfind_some hf
    rw [h.nd k i c b hc hb h1 h2]
theorem BOk.put {B : List Blob} (h : BOk B) (b : Blob) : BOk (bput B b).1 := by
  unfold bput
  split
  · exact h
  · rename_i hr
    have hr : b.Rt := Classical.not_not.1 hr
    split
    · split <;> exact h
    · rename_i hf
      split
      · exact h
      · rename_i hroom
        have hn : ∀ o, usedN [b] o = if b.owner = o then 1 else 0 := fun o => by simp [usedN, List.countP_cons]
        have hb : ∀ o, usedB [b] o = if b.owner = o then b.cipher.length else 0 := fun o => by simp [usedB, lenOf]
        refine ⟨fun x hx => ?_, fun i j x y hx hy ho hnu => ?_, fun o => ?_, fun o => ?_⟩
        · rcases List.mem_append.1 hx with hx | hx
          · exact h.rt x hx
          · simp at hx; subst hx; exact hr
        · rw [List.getElem?_append] at hx hy
          split at hx
          · split at hy
            · exact h.nd i j x y hx hy ho hnu
            · have e : y = b := by
                have hj : j - B.length = 0 := by
                  have := (List.getElem?_eq_some_iff.1 hy).1; simp at this; omega
                rw [hj] at hy; simp at hy; exact hy.symm
              subst e
              exact absurd ⟨ho, hnu⟩ (bfind_none hf x (List.mem_of_getElem? hx))
          · rename_i hi
            have hi0 : i - B.length = 0 := by have := (List.getElem?_eq_some_iff.1 hx).1; simp at this; omega
            rw [hi0] at hx; simp at hx; subst hx
            split at hy
            · exact absurd ⟨ho.symm, hnu.symm⟩ (bfind_none hf y (List.mem_of_getElem? hy))
            · rename_i hj
              have hj0 : j - B.length = 0 := by have := (List.getElem?_eq_some_iff.1 hy).1; simp at this; omega
              omega
        · rw [usedN_app, hn]
          have := h.n o
          split
          · rename_i e; subst e; omega
          · omega
        · rw [usedB_app, hb]
          have := h.b o
          split
          · rename_i e; subst e; omega
          · omega
theorem usedN_erase {B : List Blob} {i : Nat} {b : Blob} (h : B[i]? = some b) {o : Int} : usedN B o = usedN (B.eraseIdx i) o + if b.owner = o then 1 else 0 := by
  obtain ⟨h1, h2⟩ := erase_split h
  rw [h2]
  have e : usedN B o = usedN (B.take i ++ b :: B.drop (i + 1)) o := congrArg (usedN · o) h1
  rw [e, usedN_app, usedN_app]
  simp [usedN, List.countP_cons]; omega
theorem usedB_erase {B : List Blob} {i : Nat} {b : Blob} (h : B[i]? = some b) {o : Int} : usedB B o = usedB (B.eraseIdx i) o + lenOf o b := by
  obtain ⟨h1, h2⟩ := erase_split h
  rw [h2]
  have e : usedB B o = usedB (B.take i ++ b :: B.drop (i + 1)) o := congrArg (usedB · o) h1
  rw [e, usedB_app, usedB_app]
  simp [usedB]; omega
theorem BOk.erase {B : List Blob} (h : BOk B) {i : Nat} {b : Blob} (hb : B[i]? = some b) : BOk (B.eraseIdx i) := by
  refine ⟨fun x hx => h.rt x (List.mem_of_mem_eraseIdx hx), fun p q x y hx hy ho hn => ?_, fun o => ?_, fun o => ?_⟩
  · rw [List.getElem?_eraseIdx] at hx hy
    split at hx <;> split at hy
    · exact h.nd p q x y hx hy ho hn
    · have := h.nd p (q + 1) x y hx hy ho hn; omega
    · have := h.nd (p + 1) q x y hx hy ho hn; omega
    · have := h.nd (p + 1) (q + 1) x y hx hy ho hn; omega
  · have := usedN_erase hb (o := o); have := h.n o; omega
  · have := usedB_erase hb (o := o); have := h.b o; omega
theorem BOk.prune1 {B : List Blob} (h : BOk B) (o n : Int) : BOk (bprune1 B o n).1 := by
  unfold bprune1
  split
  · rename_i i hf
    obtain ⟨b, hb, _⟩ := bfind_some hf
    exact h.erase hb
  · exact h
theorem bprune_snoc {B : List Blob} {o : Int} {l : List Int} {n : Int} : bprune B o (l ++ [n]) = ((bprune1 (bprune B o l).1 o n).1, (bprune B o l).2 + (bprune1 (bprune B o l).1 o n).2) := by
  unfold bprune; rw [List.foldl_append]; rfl
theorem bprune_next {B : List Blob} {o : Int} {l : List Int} {i : Nat} {n : Int} (h : l[i]? = some n) : bprune B o (l.take (i + 1)) = ((bprune1 (bprune B o (l.take i)).1 o n).1, (bprune B o (l.take i)).2 + (bprune1 (bprune B o (l.take i)).1 o n).2) := by
  rw [List.take_add_one, h]; exact bprune_snoc
theorem BOk.prune_take {B : List Blob} (h : BOk B) (o : Int) (l : List Int) : ∀ i, i ≤ l.length → BOk (bprune B o (l.take i)).1
  | 0, _ => h
  | i + 1, hi => by
    have hx : l[i]? = some l[i] := List.getElem?_eq_getElem (by omega)
    rw [bprune_next hx]
    exact (BOk.prune_take h o l i (by omega)).prune1 _ _
theorem BOk.prune {B : List Blob} (h : BOk B) (o : Int) (l : List Int) : BOk (bprune B o l).1 := by
  have := h.prune_take o l l.length (Nat.le_refl _)
  rwa [List.take_length] at this
theorem prune_le {B : List Blob} {o : Int} {l : List Int} : ∀ i, i ≤ l.length → (bprune B o (l.take i)).2 ≤ i
  | 0, _ => Nat.le_refl _
  | i + 1, hi => by
    have hx : l[i]? = some l[i] := List.getElem?_eq_getElem (by omega)
    have := prune_le (B := B) (o := o) i (show i ≤ l.length by omega)
    rw [bprune_next hx]
    have h1 : ∀ C : List Blob, (bprune1 C o l[i]).2 ≤ 1 := fun C => by unfold bprune1; split <;> simp
    have := h1 (bprune B o (l.take i)).1
    simp only; omega
/-! Entries met in any order. -/
theorem perm_of_mem {α : Type} : ∀ {l m : List α}, l.Nodup → m.Nodup → (∀ x, x ∈ l ↔ x ∈ m) → l.Perm m
  | [], m, _, _, h => by
    cases m with
    | nil => exact List.Perm.refl _
    | cons a m => have := (h a).2 (List.mem_cons_self ..); cases this
  | a :: l, m, hl, hm, h => by
    obtain ⟨ha, hl⟩ := List.nodup_cons.1 hl
    have ham := (h a).1 (List.mem_cons_self ..)
    have hp := List.perm_cons_erase ham
    refine (List.Perm.cons a (perm_of_mem hl (hm.erase a) fun x => ?_)).trans hp.symm
    rw [hm.mem_erase_iff]
    constructor
    · intro hx; exact ⟨fun e => ha (e ▸ hx), (h x).1 (List.mem_cons_of_mem _ hx)⟩
    · rintro ⟨hne, hx⟩
      exact (List.mem_cons.1 ((h x).2 hx)).resolve_left hne
/-- Entries that were met: each once, all of them of the map. -/
structure Met (E D : List (Nat × Blob)) : Prop where
  sub : ∀ e ∈ D, e ∈ E
  nd : (D.map (·.1)).Nodup
theorem nodup_of_map {α β : Type} {f : α → β} : ∀ {l : List α}, (l.map f).Nodup → l.Nodup
  | [], _ => List.nodup_nil
  | a :: l, h => by
    obtain ⟨h1, h2⟩ := List.nodup_cons.1 (show (f a :: l.map f).Nodup from h)
    exact List.nodup_cons.2 ⟨fun hm => h1 (List.mem_map_of_mem hm), nodup_of_map h2⟩
theorem Met.len {E D : List (Nat × Blob)} (h : Met E D) : D.length ≤ E.length := by
  have := L32.countP_sub (p := fun _ => true) (nodup_of_map h.nd) h.sub
  simpa using this
theorem Met.add {E D : List (Nat × Blob)} (h : Met E D) {e : Nat × Blob} (he : e ∈ E) (hn : ¬ e.1 ∈ D.map (·.1)) : Met E (D ++ [e]) := by
  refine ⟨fun x hx => ?_, ?_⟩
  · rcases List.mem_append.1 hx with hx | hx
    · exact h.sub x hx
    · simp at hx; subst hx; exact he
  · rw [List.map_append, List.nodup_append]
    exact ⟨h.nd, by simp, fun a ha b hb => by simp at hb; subst hb; exact fun e2 => hn (e2 ▸ ha)⟩
theorem Met.all {E D : List (Nat × Blob)} (h : Met E D) (hE : (E.map (·.1)).Nodup) (ha : ∀ e ∈ E, e.1 ∈ D.map (·.1)) : D.Perm E := by
  refine perm_of_mem (nodup_of_map h.nd) (nodup_of_map hE) fun x => ⟨h.sub x, fun hx => ?_⟩
  obtain ⟨d, hd, e⟩ := List.mem_map.1 (ha x hx)
  have hd' := h.sub d hd
  obtain ⟨i, hi⟩ := List.mem_iff_getElem?.1 hd'
  obtain ⟨k, hk⟩ := List.mem_iff_getElem?.1 hx
  have h1 : (E.map (·.1))[i]? = some d.1 := by simp [hi]
  have h2 : (E.map (·.1))[k]? = some d.1 := by simp [hk, e]
  have : i = k := (List.getElem?_inj (List.getElem?_eq_some_iff.1 h1).1 hE).1 (by rw [h1, h2])
  subst this
  rw [hi] at hk; cases hk; exact hd
end Go.Aff.L10

/- Layer 11, walked: stores in memory. -/
-- cuts
namespace Go.Aff.L10
open Go.Proofs Go.Aff Go.Aff.L01 Classical
set_option linter.unusedVariables false
set_option linter.unusedSimpArgs false
set_option maxRecDepth 20000
attribute [local go_sem] push_app app_app length_app cellAt_app cellAt_app0 set_app set_app0 objs_app objs_app0 List.cons_append List.nil_append List.length_cons List.length_nil List.getElem?_cons_zero List.getElem?_cons_succ List.set_cons_zero List.set_cons_succ List.length_map
attribute [-go_sem] cellAt_new
attribute [-simp] List.length_flatMap
attribute [local go_sem] Try.underlying3 Try.underlying4 Try.underlying5 Try.underlying9 Try.underlying24 Try.underlying43 Try.underlying37 Try.underlying22 Try.underlying32 blobPs_0 blobAt_0 blobSet_0 blobPs_1 blobAt_1 blobSet_1 blobPs_2 blobAt_2 blobSet_2 blobPs_3 blobAt_3 blobSet_3 sizes_blob shapes_blob fits_blob zero_blob zt_blob built_blob Try.underlying26 bkeyPs_0 bkeyAt_0 bkeySet_0 bkeyPs_1 bkeyAt_1 bkeySet_1 sizes_bkey shapes_bkey fits_bkey zero_bkey zt_bkey built_bkey Try.underlying56 rstPs_0 rstAt_0 rstSet_0 sizes_rst shapes_rst fits_rst zero_rst zt_rst built_rst Try.underlying45 actPs_0 actAt_0 actSet_0 actPs_1 actAt_1 actSet_1 actPs_2 actAt_2 actSet_2 actPs_3 actAt_3 actSet_3 actPs_4 actAt_4 actSet_4 sizes_act shapes_act fits_act zero_act zt_act built_act Try.underlying42
attribute [local go_sem] fits3 fits4 fits5 fits9 fits23 fits26 fits31 fits34 zt3 zero3 bin_blob_eql bin_blob_neq
attribute [local go_sem ↓] blockQ_exit2
attribute [local simp] dig_ext
attribute [local go_sem] fits58 stAt zero60 zt60 built60 fits60 shape_mp Try.underlying58 Try.underlying60 Try.underlying27 Try.underlying28
theorem objs_setSB {s : AST} {k : Nat} {o : AObj} (h : k < s.objs.length) : (s.set k o).objs[k]? = some o := by simp only [AST.set]; rw [List.getElem?_set_self h]
theorem objs_setNB {s : AST} {j k : Nat} {o : AObj} (h : j ≠ k) : (s.set j o).objs[k]? = s.objs[k]? := by simp only [AST.set]; rw [List.getElem?_set_ne h]
theorem set_appB {s : AST} {i : Nat} {o : AObj} {l : List AObj} (h : i < s.objs.length) : (s.app l).set i o = (s.set i o).app l := by
  simp only [AST.set, AST.app]; rw [List.set_append_left _ _ h]
theorem ext_knownB {a b : AST} {k : Nat} {o : AObj} (h : Ext a b) (ho : a.objs[k]? = some o) : b.objs[k]? = some o := by
  obtain ⟨O, T, rfl⟩ := h
  rw [List.getElem?_append_left (List.getElem?_eq_some_iff.1 ho).1]; exact ho
theorem cell_ltB {s : AST} {j : Nat} {o : AObj} (h : s.objs[j]? = some o) : j < s.objs.length := (List.getElem?_eq_some_iff.1 h).1
def kOf (b : Blob) : BKey := ⟨b.owner, b.num⟩
def entB (e : Nat × Blob) : Nat × AV × AV := (e.1, .agg (bkeyPs (kOf e.2)), .agg (blobPs e.2))
theorem findB {o n : Int} : ∀ {E : List (Nat × Blob)}, findE Try.prog 56 (.agg (bkeyPs ⟨o, n⟩)) (E.map entB) = some (bfind (E.map (·.2)) o n)
  | [] => rfl
  | e :: E => by
    have ih := findB (o := o) (n := n) (E := E)
    simp only [List.map_cons, findE, entB, eqK, bkey_ok, if_true, eq_bkey]
    unfold bfind at ih ⊢
    rw [List.findIdx?_cons]
    by_cases h : e.2.owner = o ∧ e.2.num = n
    · obtain ⟨rfl, rfl⟩ := h
      simp [isB, kOf]
    · have h1 : ¬ ((⟨o, n⟩ : BKey) = kOf e.2) := fun hh => h (by simp only [kOf, BKey.mk.injEq] at hh; exact ⟨hh.1.symm, hh.2.symm⟩)
      have h2 : isB o n e.2 = false := by simp only [isB, decide_eq_false_iff_not]; exact h
      rw [h2]
      simp only [decide_eq_false h1]
      change (findE Try.prog 56 (.agg (bkeyPs ⟨o, n⟩)) (E.map entB)).map _ = _
      rw [ih]; simp
/-- A store in memory, and what else is known of memory. -/
structure SF (σ0 s : AST) (j mi : Nat) (B : List Blob) (F : List (Nat × AObj)) : Prop where
  x : Ext σ0 s
  jn : σ0.objs.length ≤ j
  mn : σ0.objs.length ≤ mi
  jm : j ≠ mi
  o : s.objs[j]? = some (.cells (.agg [.mp (some mi)]))
  om : ∃ (E : List (Nat × Blob)) (ck : Nat), E.map (·.2) = B ∧ s.objs[mi]? = some (.map (E.map entB) ck) ∧ (∀ e ∈ E, e.1 < ck) ∧ (E.map (·.1)).Nodup
  f : ∀ x ∈ F, x.1 ≠ j ∧ x.1 ≠ mi ∧ s.objs[x.1]? = some x.2
section
variable {σ0 s s2 : AST} {j mi : Nat} {B : List Blob} {F : List (Nat × AObj)} {K : AV → AST → Prop}
theorem SF.ext (h : SF σ0 s j mi B F) (e : Ext s s2) : SF σ0 s2 j mi B F := by
  obtain ⟨E, ck, h1, h2, h3, h4⟩ := h.om
  exact ⟨h.x.trans e, h.jn, h.mn, h.jm, ext_knownB e h.o, ⟨E, ck, h1, ext_knownB e h2, h3, h4⟩, fun x hx => ⟨(h.f x hx).1, (h.f x hx).2.1, ext_knownB e (h.f x hx).2.2⟩⟩
theorem SF.more (h : SF σ0 s j mi B F) {i : Nat} {o : AObj} (ho : s.objs[i]? = some o) (h1 : i ≠ j) (h2 : i ≠ mi) : SF σ0 s j mi B ((i, o) :: F) :=
  ⟨h.x, h.jn, h.mn, h.jm, h.o, h.om, fun x hx => by
    rcases List.mem_cons.1 hx with rfl | hx
    · exact ⟨h1, h2, ho⟩
    · exact h.f x hx⟩
theorem SF.less {y : Nat × AObj} (h : SF σ0 s j mi B (y :: F)) : SF σ0 s j mi B F := ⟨h.x, h.jn, h.mn, h.jm, h.o, h.om, fun x hx => h.f x (List.mem_cons_of_mem _ hx)⟩
theorem SF.lt (h : SF σ0 s j mi B F) : j < s.objs.length ∧ mi < s.objs.length := by
  obtain ⟨E, ck, _, h2, _⟩ := h.om
  exact ⟨cell_ltB h.o, cell_ltB h2⟩
theorem SF.box (h : SF σ0 s j mi B F) (o : AObj) : SF σ0 (s.app [o]) j mi B ((s.objs.length, o) :: F) := by
  have hl := h.lt
  exact (h.ext (Ext.app _ _)).more objs_app0 (by omega) (by omega)
/-- The map is put in place of another one. -/
theorem SF.put (h : SF σ0 s j mi B F) {E : List (Nat × Blob)} {ck : Nat} (h1 : ∀ e ∈ E, e.1 < ck) (h2 : (E.map (·.1)).Nodup) : SF σ0 (s.set mi (.map (E.map entB) ck)) j mi (E.map (·.2)) F :=
  ⟨h.x.set h.mn, h.jn, h.mn, h.jm, by rw [objs_setNB (Ne.symm h.jm)]; exact h.o, ⟨E, ck, rfl, objs_setSB h.lt.2, h1, h2⟩, fun x hx => ⟨(h.f x hx).1, (h.f x hx).2.1, by rw [objs_setNB (Ne.symm (h.f x hx).2.1)]; exact (h.f x hx).2.2⟩⟩
theorem lookupB {σ : AST} {E : List (Nat × Blob)} {ck : Nat} {o n : Int} {KV : AV → Prop} (ho : σ.objs[mi]? = some (.map (E.map entB) ck))
    (h1 : ∀ i b, bfind (E.map (·.2)) o n = some i → (E.map (·.2))[i]? = some b → KV (.tuple [.agg (blobPs b), .bool true])) (h2 : bfind (E.map (·.2)) o n = none → KV (.tuple [.agg (blobPs blob0), .bool false])) :
    lookupW Try.prog σ 58 (.mp (some mi)) (.agg (bkeyPs ⟨o, n⟩)) true KV := by
  refine ⟨56, 26, Try.underlying58, bkey_ok, ?_⟩
  simp only [ho]
  refine ⟨_, findB, ?_⟩
  cases hf : bfind (E.map (·.2)) o n with
  | none =>
    refine ⟨by rw [zero_blob]; exact of_eq_true zt_blob, ?_⟩
    rw [zero_blob]; exact h2 hf
  | some i =>
    intro e he
    rw [List.getElem?_map] at he
    obtain ⟨x, hx, rfl⟩ := Option.map_eq_some_iff.1 he
    exact h1 i x.2 hf (by rw [List.getElem?_map, hx]; rfl)
theorem updateB {σ : AST} {E : List (Nat × Blob)} {ck : Nat} {b : Blob} {KS : AST → Prop} (ho : σ.objs[mi]? = some (.map (E.map entB) ck)) (hf : bfind (E.map (·.2)) b.owner b.num = none)
    (hK : KS (σ.set mi (.map ((E ++ [(ck, b)]).map entB) (ck + 1)))) : mapUpdateW Try.prog σ 58 (.mp (some mi)) (.agg (bkeyPs ⟨b.owner, b.num⟩)) (.agg (blobPs b)) KS := by
  refine ⟨56, 26, Try.underlying58, bkey_ok, rfl, ?_⟩
  simp only [ho]
  refine ⟨_, findB, ?_⟩
  rw [hf]
  simpa [entB, kOf] using hK
theorem deleteB {σ : AST} {E : List (Nat × Blob)} {ck i : Nat} {o n : Int} {KS : AST → Prop} (ho : σ.objs[mi]? = some (.map (E.map entB) ck)) (hf : bfind (E.map (·.2)) o n = some i)
    (hK : KS (σ.set mi (.map ((E.eraseIdx i).map entB) ck))) : deleteW Try.prog ⟨[58, 56]⟩ (.mp (some mi)) (.agg (bkeyPs ⟨o, n⟩)) σ KS := by
  refine ⟨58, 56, 26, rfl, Try.underlying58, bkey_ok, ?_⟩
  simp only [ho]
  refine ⟨_, findB, ?_⟩
  rw [hf]
  simp only
  have : (E.map entB).eraseIdx i = (E.eraseIdx i).map entB := by
    rw [List.eraseIdx_eq_take_drop_succ, List.eraseIdx_eq_take_drop_succ, List.map_append, List.map_take, List.map_drop]
  rw [this]; exact hK
end
theorem bright_c {b : Blob} {σ : AST} {K : AV → AST → Prop} (hK : K (.bool (decide b.Rt)) σ) : TCalls Try.prog 18 [.agg (blobPs b)] σ K := by
  refine TCalls.drop ?_
  refine tcalls_walk Try.f18 _ [.tmp 2] Try.func18 rfl rfl rfl mixed (Nat.le_of_ble_eq_true rfl) rfl fun hlen => ?_
  repeat' (first | (simp -dsimp only [↓reduceIte, go_sem]) | (refine arr_intro fun _ => ?_) | (refine later_intro ⟨keeps_nil, ?_⟩) | (refine later_intro ⟨keeps_refl, ?_⟩) | (with_reducible refine keeps_go ?_ ?_; focus (first | (simp [keeps_cons, keeps_none, objs_app, objs_app0]; done) | (simp only [keeps_cons, keeps_none, objs_app0, objs_app, and_true]; first | rfl | exact ⟨rfl, rfl⟩ | exact ⟨rfl, rfl, rfl⟩))) | (with_reducible refine (And.intro (a := keeps _ _ _) ?_ ?_); focus (first | (simp [keeps_cons, keeps_none, objs_app, objs_app0]; done) | (simp only [keeps_cons, keeps_none, objs_app0, objs_app, and_true]; first | rfl | exact ⟨rfl, rfl⟩ | exact ⟨rfl, rfl, rfl⟩))) | (refine both_ways ?_ ?_) | (rw [wrap_i64 (by omega) (by omega)]) | (refine guardV_split (fun h => ?_) (fun h => ?_) <;> (try rw [h]) <;> (try simp at h) <;> (try (exfalso; omega))))
  all_goals (first | exact hK | (exfalso; omega) | (refine bool_endD hK ?_; simp_all [Blob.Rt] <;> fail) | (refine bool_endDX (Ext.app _ _) hK ?_; simp_all [Blob.Rt] <;> fail) | (refine bool_endDX (Ext.refl _) hK ?_; simp_all [Blob.Rt] <;> fail) | (refine bool_endDX hx hK ?_; simp_all [Blob.Rt] <;> fail) | (refine bool_endD hK ?_; simp [Blob.Rt]; omega) | (refine bool_endDX (Ext.app _ _) hK ?_; simp [Blob.Rt]; omega) | (refine bool_endDX (Ext.refl _) hK ?_; simp [Blob.Rt]; omega) | (refine bool_endDX hx hK ?_; simp [Blob.Rt]; omega) | (refine bool_endD hK ?_; simp_all [Blob.Rt]; omega) | (refine bool_endDX (Ext.app _ _) hK ?_; simp_all [Blob.Rt]; omega) | (refine bool_endDX (Ext.refl _) hK ?_; simp_all [Blob.Rt]; omega) | (refine bool_endDX hx hK ?_; simp_all [Blob.Rt]; omega) | (refine bool_endD hK ?_; simp_all [Blob.Rt] <;> omega) | (refine bool_endDX (Ext.app _ _) hK ?_; simp_all [Blob.Rt] <;> omega) | (refine bool_endDX (Ext.refl _) hK ?_; simp_all [Blob.Rt] <;> omega) | (refine bool_endDX hx hK ?_; simp_all [Blob.Rt] <;> omega))
end Go.Aff.L10

