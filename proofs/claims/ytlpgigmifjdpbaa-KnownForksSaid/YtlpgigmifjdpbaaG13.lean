import Derived.Test.YtlpgigmifjdpbaaG12
import Derived.Test.YtlpgigmifjdpbaaG11

/- Layer 9, walked: ends, beginnings, forks; awake. -/
namespace Go.Aff.L09
open Go.Proofs Go.Aff
set_option linter.unusedVariables false
set_option linter.unusedSimpArgs false
attribute [local go_sem] Try.underlying3 Try.underlying4 Try.underlying5 Try.underlying9 fits3 fits9

theorem hp2_c {a b : List UInt8} {σ : AST} {K : AV → AST → Prop} (hK : K (.bool (goes a b)) σ) : TCalls Try.prog 47 [.str a, .str b] σ K := by
  refine tcalls_walk Try.f47 _ [.tmp 4] Try.func47 rfl rfl rfl mixed (Nat.le_of_ble_eq_true rfl) rfl fun hlen => ?_
  simp -dsimp only [↓reduceIte, go_sem]
  refine arr_intro fun _ => ?_
  simp -dsimp only [↓reduceIte, go_sem]
  refine arr_intro fun _ => ?_
  simp -dsimp only [↓reduceIte, go_sem]
  refine guardV_split (fun h1 => ?_) (fun h1 => ?_) <;> (try rw [h1])
  · have h1 : b.length ≤ a.length := by simp at h1; omega
    simp -dsimp only [↓reduceIte, go_sem]
    refine arr_intro fun _ => ?_
    simp -dsimp only [↓reduceIte, go_sem]
    refine side_later (by omega) ?_
    simp -dsimp only [↓reduceIte, go_sem]
    refine side_later (by omega) ?_
    simp -dsimp only [↓reduceIte, go_sem]
    rw [show (a.take b.length == b) = goes a b by rw [Bool.eq_iff_iff]; simp [goes]; rw [List.prefix_iff_eq_take]; exact eq_comm]
    exact hK
  · have h1 : ¬ b.length ≤ a.length := by simp at h1; omega
    simp -dsimp only [↓reduceIte, go_sem]
    rw [show goes a b = false by simp [goes]; intro h; exact h1 h.length_le] at hK
    exact hK
theorem hp_c {a b : List UInt8} {σ : AST} {K : AV → AST → Prop} (hK : K (.bool (goes a b)) σ) : TCalls Try.prog 44 [.str a, .str b] σ K := by
  refine tcalls_walk Try.f44 _ [.tmp 4] Try.func44 rfl rfl rfl mixed (Nat.le_of_ble_eq_true rfl) rfl fun hlen => ?_
  simp -dsimp only [↓reduceIte, go_sem]
  refine hp2_c ?_
  simp -dsimp only [↓reduceIte, go_sem]
  exact hK
theorem goes_c {a b : List UInt8} {σ : AST} {K : AV → AST → Prop} (hK : K (.bool (goes a b)) σ) : TCalls Try.prog 41 [.str a, .str b] σ K := by
  refine tcalls_walk Try.f41 _ [.tmp 4] Try.func41 rfl rfl rfl mixed (Nat.le_of_ble_eq_true rfl) rfl fun hlen => ?_
  simp -dsimp only [↓reduceIte, go_sem]
  refine hp_c ?_
  simp -dsimp only [↓reduceIte, go_sem]
  exact hK

theorem Goes_c {a b : List UInt8} {σ : AST} {K : AV → AST → Prop} (hK : K (.bool (goes a b)) σ) : TCalls Try.prog 17 [.str a, .str b] σ K := by
  refine tcalls_walk Try.f17 _ [.tmp 4] Try.func17 rfl rfl rfl mixed (Nat.le_of_ble_eq_true rfl) rfl fun hlen => ?_
  have hsa : a.length ≤ 9223372036854775807 := hlen (.str a) (by simp)
  have hsb : b.length ≤ 9223372036854775807 := hlen (.str b) (by simp)
  simp -dsimp only [↓reduceIte, go_sem]
  refine arr_intro fun _ => ?_
  simp -dsimp only [↓reduceIte, go_sem]
  refine arr_intro fun _ => ?_
  simp -dsimp only [↓reduceIte, go_sem]
  refine boolW_split (fun h1 => ?_) (fun h1 => ?_)
  · have h1 : a.length < b.length := by simp at h1; omega
    rw [show goes a b = false by simp [goes]; intro h; have := h.length_le; omega] at hK
    simp -dsimp only [↓reduceIte, go_sem]
    exact hK
  · have h1 : b.length ≤ a.length := by simp at h1; omega
    simp -dsimp only [↓reduceIte, go_sem]
    refine awp_rounds (fun (i : Nat) τ s => i ≤ b.length ∧ s = σ ∧ τ 0 = .str a ∧ τ 1 = .str b ∧ τ 5 = .int .i64 i ∧ ∀ k, k < i → a[k]? = b[k]?) (fun i => b.length - i) 0 ?_ ?_
    · refine ⟨by omega, rfl, ?_, ?_, ?_, fun k hk => by omega⟩ <;> simp only [go_sem] <;> rfl
    · rintro i τ s ⟨hi, rfl, t0, t1, t5, hall⟩
      simp -dsimp only [↓reduceIte, go_sem, t0, t1, t5]
      refine arr_intro fun _ => ?_
      simp -dsimp only [↓reduceIte, go_sem, t0, t1, t5]
      refine boolW_split (fun hb => ?_) (fun hb => ?_)
      · have hb : i < b.length := by simp at hb; omega
        obtain ⟨x, hx⟩ := get_lt (l := a) (i := i) (by omega)
        obtain ⟨y, hy⟩ := get_lt hb
        have hxt := x.toNat_lt
        have hyt := y.toNat_lt
        simp -dsimp only [↓reduceIte, go_sem, t0, t1, t5]
        refine awp_drawS [0, 1, 2, 3, 4, 5, 6] (by kernel_rfl) ?_
        simp -dsimp only [↓reduceIte, go_sem, t0, t1, t5]
        refine nth_get hx ?_
        simp -dsimp only [↓reduceIte, go_sem, t0, t1, t5]
        refine nth_get hy ?_
        simp -dsimp only [↓reduceIte, go_sem, t0, t1, t5]
        refine boolW_split (fun hc => ?_) (fun hc => ?_)
        · have hc : x ≠ y := by
            intro e; subst e; simp at hc
          rw [goes_not hx hy hc] at hK
          simp -dsimp only [↓reduceIte, go_sem, t0, t1, t5]
          exact hK
        · have hc : x = y := by
            have : x.toNat = y.toNat := by simp at hc; omega
            exact UInt8.toNat_inj.1 this
          subst hc
          simp -dsimp only [↓reduceIte, go_sem, t0, t1, t5]
          rw [wrap_i64 (by omega) (by omega)]
          refine later_intro ⟨i + 1, by omega, by omega, rfl, ?_, ?_, ?_, fun k hk => ?_⟩ <;> (try simp only [go_sem, t0, t1, t5]) <;> try rfl
          by_cases hki : k = i
          · subst hki; rw [hx, hy]
          · exact hall k (by omega)
      · have hb : i = b.length := by simp at hb; omega
        rw [goes_step hall h1 hb] at hK
        simp -dsimp only [↓reduceIte, go_sem, t0, t1, t5]
        exact hK

theorem fit_c {a b : List UInt8} {σ : AST} {K : AV → AST → Prop} (hK : K (.bool (fit a b)) σ) : TCalls Try.prog 37 [.str a, .str b] σ K := by
  rw [fit_eq] at hK
  refine tcalls_walk Try.f37 _ [.tmp 4] Try.func37 rfl rfl rfl mixed (Nat.le_of_ble_eq_true rfl) rfl fun hlen => ?_
  simp -dsimp only [↓reduceIte, go_sem]
  refine goes_c ?_
  simp -dsimp only [↓reduceIte, go_sem]
  cases hg : goes a b with
  | true =>
    rw [hg] at hK
    simp -dsimp only [↓reduceIte, go_sem]
    exact hK
  | false =>
    rw [hg] at hK
    simp -dsimp only [↓reduceIte, go_sem]
    refine goes_c ?_
    simp -dsimp only [↓reduceIte, go_sem]
    exact hK
theorem Fit_c {a b : List UInt8} {σ : AST} {K : AV → AST → Prop} (hK : K (.bool (fit a b)) σ) : TCalls Try.prog 20 [.str a, .str b] σ K := by
  rw [fit_eq] at hK
  refine tcalls_walk Try.f20 _ [.tmp 4] Try.func20 rfl rfl rfl mixed (Nat.le_of_ble_eq_true rfl) rfl fun hlen => ?_
  simp -dsimp only [↓reduceIte, go_sem]
  refine Goes_c ?_
  simp -dsimp only [↓reduceIte, go_sem]
  cases hg : goes a b with
  | true =>
    rw [hg] at hK
    simp -dsimp only [↓reduceIte, go_sem]
    exact hK
  | false =>
    rw [hg] at hK
    simp -dsimp only [↓reduceIte, go_sem]
    refine Goes_c ?_
    simp -dsimp only [↓reduceIte, go_sem]
    exact hK
theorem longer_c {a b : List UInt8} {σ : AST} {K : AV → AST → Prop} (hK : K (.str (longer a b)) σ) : TCalls Try.prog 38 [.str a, .str b] σ K := by
  rw [← longer_hist] at hK
  refine tcalls_walk Try.f38 _ [.tmp 4] Try.func38 rfl rfl rfl mixed (Nat.le_of_ble_eq_true rfl) rfl fun hlen => ?_
  simp -dsimp only [↓reduceIte, go_sem]
  refine arr_intro fun _ => ?_
  simp -dsimp only [↓reduceIte, go_sem]
  refine arr_intro fun _ => ?_
  simp -dsimp only [↓reduceIte, go_sem]
  refine guardV_split (fun h1 => ?_) (fun h1 => ?_) <;> (try rw [h1])
  · have h1 : a.length < b.length := by simp at h1; omega
    simp -dsimp only [↓reduceIte, go_sem]
    refine goes_c ?_
    cases hg : goes b a with
    | true =>
      rw [hg, if_pos ⟨h1, rfl⟩] at hK
      simp -dsimp only [↓reduceIte, go_sem]
      exact hK
    | false =>
      rw [hg, if_neg (by simp)] at hK
      simp -dsimp only [↓reduceIte, go_sem]
      exact hK
  · have h1 : ¬ a.length < b.length := by simp at h1; omega
    rw [if_neg (fun h => h1 h.1)] at hK
    simp -dsimp only [↓reduceIte, go_sem]
    exact hK
end Go.Aff.L09

/- Layer 9, walked: forks; awake. -/
namespace Go.Aff.L09
open Go.Proofs Go.Aff
set_option linter.unusedVariables false
set_option linter.unusedSimpArgs false
attribute [local go_sem] Try.underlying3 Try.underlying4 Try.underlying5 Try.underlying9 fits3 fits9

theorem sizes_str {l : List (List UInt8)} : ∀ v ∈ l.map AV.str, v.size = 1 := by
  intro v hv; obtain ⟨s, _, rfl⟩ := List.mem_map.1 hv; simp [AV.size]

theorem fork_awake {a b : Int} (h : ForkP [[97], [97, 98], [98]] a b) : a = 0 ∧ b = 2 := by
  refine fork_found (k := 2) (i := 0) (x := [97]) (y := [98]) h ?_ (by decide) rfl rfl (by decide)
  intro k' i' h1 h2 x y hx hy
  obtain ⟨rfl, rfl⟩ : k' = 1 ∧ i' = 0 := by omega
  simp at hx hy
  subst hx; subst hy; decide

end Go.Aff.L09

/- Layer 9, walked: HistFits, HistOrders, HistGrows. -/
namespace Go.Aff.L09
open Go.Proofs Go.Aff
set_option linter.unusedVariables false
set_option linter.unusedSimpArgs false
attribute [local go_sem] Try.underlying3 Try.underlying4 Try.underlying5 Try.underlying9 fits3 fits9

theorem goes_append {a b : List UInt8} : goes (a ++ b) a = true := by simp [goes]
theorem goes_upto {h : List UInt8} {c : Int} : goes h (upto h c) = true := by simp only [goes, decide_eq_true_eq]; exact upto_prefix

end Go.Aff.L09

/- Layer 16, plainly: what is known. -/
namespace Go.Aff.L16
open Go.Aff Go.Aff.L09
set_option linter.unusedVariables false
set_option linter.unusedSimpArgs false

theorem back_rec {α : Type} {p : List α → Prop} (l : List α) (nil : p []) (append_singleton : ∀ l x, p l → p (l ++ [x])) : p l := by
  have : ∀ r : List α, p r.reverse := by
    intro r
    induction r with
    | nil => exact nil
    | cons x r ih => rw [List.reverse_cons]; exact append_singleton _ _ ih
  have h := this l.reverse
  rwa [List.reverse_reverse] at h
def dig0 : Dig := ⟨List.replicate 32 0, by simp⟩
structure Line where
  src : Int
  by_ : Int
  view : List UInt8
  tag : Dig

def line0 : Line := ⟨0, -1, [], dig0⟩
def pickL (out x : Line) : Line := if out.view.length < x.view.length then x else out
def longest (l : List Line) : Line := l.foldl pickL line0
def pickW (n : Int) (out : List UInt8) (x : Line) : List UInt8 := if x.src = n ∧ out.length < x.view.length then x.view else out
def word (l : List Line) (n : Int) : List UInt8 := l.foldl (pickW n) []
def pickO (n : Int) (out : List UInt8) (x : Line) : List UInt8 := if x.src = n ∧ x.by_ = n ∧ out.length < x.view.length then x.view else out
def own (l : List Line) (n : Int) : List UInt8 := l.foldl (pickO n) []
def okB (n : Int) (x : Line) : Bool := decide (0 ≤ x.src ∧ x.src < n ∧ 0 ≤ x.by_ ∧ x.by_ < n) && (x.view != []) && right x.view n && decide (x.view.getLast?.map (fun b => (b.toNat : Int)) = some x.by_)
def learnE (n : Int) (l : List Line) (x : Line) : Int := if okB n x = false then 2 else if fit (longest l).view x.view = false then 8 else 0
def learned (n : Int) (l : List Line) (x : Line) : List Line := if learnE n l x = 0 then l ++ [x] else l
def Good (n : Int) (l : List Line) : Prop := ∀ x ∈ l, okB n x = true ∧ x.view <+: (longest l).view

theorem longest_snoc {l : List Line} {x : Line} : longest (l ++ [x]) = pickL (longest l) x := by simp [longest, List.foldl_append]
theorem word_snoc {l : List Line} {x : Line} {n : Int} : word (l ++ [x]) n = pickW n (word l n) x := by simp [word, List.foldl_append]
theorem own_snoc {l : List Line} {x : Line} {n : Int} : own (l ++ [x]) n = pickO n (own l n) x := by simp [own, List.foldl_append]

theorem good_nil {n : Int} : Good n [] := fun x hx => by simp at hx
theorem fit_len {a b : List UInt8} (h : fit a b = true) : (a.length ≤ b.length → a <+: b) ∧ (b.length ≤ a.length → b <+: a) := by
  simp only [fit, decide_eq_true_eq] at h
  constructor
  · intro hl
    rcases h with h | h
    · have := h.eq_of_length_le hl; subst this; exact List.prefix_refl _
    · exact h
  · intro hl
    rcases h with h | h
    · exact h
    · have := h.eq_of_length_le hl; subst this; exact List.prefix_refl _
theorem longest_grows {l : List Line} {x : Line} (hf : fit (longest l).view x.view = true) : (longest l).view <+: (longest (l ++ [x])).view ∧ x.view <+: (longest (l ++ [x])).view := by
  rw [longest_snoc]
  unfold pickL
  split
  · rename_i h; exact ⟨(fit_len hf).1 (by omega), List.prefix_refl _⟩
  · rename_i h; exact ⟨List.prefix_refl _, (fit_len hf).2 (by omega)⟩
theorem good_snoc {n : Int} {l : List Line} {x : Line} (h : Good n l) (hx : okB n x = true) (hf : fit (longest l).view x.view = true) : Good n (l ++ [x]) := by
  obtain ⟨h1, h2⟩ := longest_grows hf
  intro y hy
  rcases List.mem_append.1 hy with hy | hy
  · exact ⟨(h y hy).1, (h y hy).2.trans h1⟩
  · simp at hy; subst hy; exact ⟨hx, h2⟩
theorem learnE_cases {n : Int} {l : List Line} {x : Line} : learnE n l x = 0 ↔ okB n x = true ∧ fit (longest l).view x.view = true := by
  unfold learnE
  cases h1 : okB n x <;> cases h2 : fit (longest l).view x.view <;> simp
theorem good_learned {n : Int} {l : List Line} {x : Line} (h : Good n l) : Good n (learned n l x) := by
  unfold learned
  split
  · rename_i h0; obtain ⟨h1, h2⟩ := learnE_cases.1 h0; exact good_snoc h h1 h2
  · exact h

/-! ### Words -/
theorem word_mem {n : Int} : ∀ {l : List Line}, word l n = [] ∨ ∃ x ∈ l, x.src = n ∧ word l n = x.view := by
  intro l
  induction l using back_rec with
  | nil => exact .inl rfl
  | append_singleton l x ih =>
    rw [word_snoc]
    unfold pickW
    split
    · rename_i h; exact .inr ⟨x, by simp, h.1, rfl⟩
    · rcases ih with h | ⟨y, hy, h1, h2⟩
      · exact .inl h
      · exact .inr ⟨y, by simp [hy], h1, h2⟩
theorem own_mem {n : Int} : ∀ {l : List Line}, own l n = [] ∨ ∃ x ∈ l, x.src = n ∧ x.by_ = n ∧ own l n = x.view := by
  intro l
  induction l using back_rec with
  | nil => exact .inl rfl
  | append_singleton l x ih =>
    rw [own_snoc]
    unfold pickO
    split
    · rename_i h; exact .inr ⟨x, by simp, h.1, h.2.1, rfl⟩
    · rcases ih with h | ⟨y, hy, h1, h2, h3⟩
      · exact .inl h
      · exact .inr ⟨y, by simp [hy], h1, h2, h3⟩
theorem word_max {n : Int} : ∀ {l : List Line} {x : Line}, x ∈ l → x.src = n → x.view.length ≤ (word l n).length := by
  intro l
  induction l using back_rec with
  | nil => intro x hx; simp at hx
  | append_singleton l y ih =>
    intro x hx hn
    rw [word_snoc]
    unfold pickW
    rcases List.mem_append.1 hx with hx | hx
    · have := ih hx hn
      split <;> omega
    · simp at hx; subst hx
      split
      · omega
      · rename_i h; have : ¬ (word l n).length < x.view.length := fun hh => h ⟨hn, hh⟩; omega
theorem own_max {n : Int} : ∀ {l : List Line} {x : Line}, x ∈ l → x.src = n → x.by_ = n → x.view.length ≤ (own l n).length := by
  intro l
  induction l using back_rec with
  | nil => intro x hx; simp at hx
  | append_singleton l y ih =>
    intro x hx hn hb
    rw [own_snoc]
    unfold pickO
    rcases List.mem_append.1 hx with hx | hx
    · have := ih hx hn hb
      split <;> omega
    · simp at hx; subst hx
      split
      · omega
      · rename_i h; have : ¬ (own l n).length < x.view.length := fun hh => h ⟨hn, hb, hh⟩; omega
theorem longest_mem : ∀ {l : List Line}, longest l = line0 ∨ longest l ∈ l := by
  intro l
  induction l using back_rec with
  | nil => exact .inl rfl
  | append_singleton l x ih =>
    rw [longest_snoc]
    unfold pickL
    split
    · right; simp
    · rcases ih with h | h
      · exact .inl h
      · right; simp [h]
theorem longest_max : ∀ {l : List Line} {x : Line}, x ∈ l → x.view.length ≤ (longest l).view.length := by
  intro l
  induction l using back_rec with
  | nil => intro x hx; simp at hx
  | append_singleton l y ih =>
    intro x hx
    rw [longest_snoc]
    unfold pickL
    rcases List.mem_append.1 hx with hx | hx
    · have := ih hx
      split <;> omega
    · simp at hx; subst hx
      split <;> omega
theorem word_long {n m : Int} {l : List Line} (h : Good m l) : word l n <+: (longest l).view := by
  rcases word_mem (n := n) (l := l) with h1 | ⟨x, hx, _, h1⟩
  · rw [h1]; exact List.nil_prefix
  · rw [h1]; exact (h x hx).2
theorem own_long {n m : Int} {l : List Line} (h : Good m l) : own l n <+: (longest l).view := by
  rcases own_mem (n := n) (l := l) with h1 | ⟨x, hx, _, _, h1⟩
  · rw [h1]; exact List.nil_prefix
  · rw [h1]; exact (h x hx).2
theorem pre_len {a b c : List UInt8} (h1 : a <+: c) (h2 : b <+: c) (hl : a.length ≤ b.length) : a <+: b := List.prefix_of_prefix_length_le h1 h2 hl
theorem own_word {n m : Int} {l : List Line} (h : Good m l) : own l n <+: word l n := by
  refine pre_len (own_long h) (word_long h) ?_
  rcases own_mem (n := n) (l := l) with h1 | ⟨x, hx, h2, _, h1⟩
  · rw [h1]; simp
  · rw [h1]; exact word_max hx h2
/-- The program's step is the document's. -/
theorem longer_pick {a b c : List UInt8} (h1 : a <+: c) (h2 : b <+: c) : longer a b = if a.length < b.length then b else a := by
  rw [longer_eq]
  by_cases hl : a.length < b.length
  · rw [if_pos hl, if_pos]
    simp only [goes, decide_eq_true_eq]
    exact pre_len h1 h2 (by omega)
  · rw [if_neg hl]
    split
    · rename_i hg
      simp only [goes, decide_eq_true_eq] at hg
      exact (hg.eq_of_length_le (by omega)).symm
    · rfl
theorem word_step {n m : Int} {l : List Line} {x : Line} (h : Good m l) (hf : fit (longest l).view x.view = true) : word (l ++ [x]) n = if x.src = n then longer (word l n) x.view else word l n := by
  obtain ⟨h1, h2⟩ := longest_grows hf
  rw [word_snoc, pickW]
  by_cases hn : x.src = n
  · rw [if_pos hn, longer_pick ((word_long h).trans h1) h2]
    by_cases hl : (word l n).length < x.view.length
    · rw [if_pos ⟨hn, hl⟩, if_pos hl]
    · rw [if_neg (fun h => hl h.2), if_neg hl]
  · rw [if_neg (fun h => hn h.1), if_neg hn]
theorem own_step {n m : Int} {l : List Line} {x : Line} (h : Good m l) (hf : fit (longest l).view x.view = true) : own (l ++ [x]) n = if x.src = n ∧ x.by_ = n then longer (own l n) x.view else own l n := by
  obtain ⟨h1, h2⟩ := longest_grows hf
  rw [own_snoc, pickO]
  by_cases hn : x.src = n ∧ x.by_ = n
  · rw [if_pos hn, longer_pick ((own_long h).trans h1) h2]
    by_cases hl : (own l n).length < x.view.length
    · rw [if_pos ⟨hn.1, hn.2, hl⟩, if_pos hl]
    · rw [if_neg (fun h => hl h.2.2), if_neg hl]
  · rw [if_neg (fun h => hn ⟨h.1, h.2.1⟩), if_neg hn]

/-! ### Growing, forks, order -/
theorem pick_grows {a b c : List UInt8} (h1 : a <+: c) (h2 : b <+: c) : a <+: longer a b := by
  rw [longer_pick h1 h2]
  split
  · exact pre_len h1 h2 (by omega)
  · exact List.prefix_refl _
theorem word_grows {n m : Int} {l : List Line} {x : Line} (h : Good m l) (hf : fit (longest l).view x.view = true) : word l n <+: word (l ++ [x]) n := by
  obtain ⟨h1, h2⟩ := longest_grows hf
  rw [word_step h hf]
  split
  · exact pick_grows ((word_long h).trans h1) h2
  · exact List.prefix_refl _
theorem own_grows {n m : Int} {l : List Line} {x : Line} (h : Good m l) (hf : fit (longest l).view x.view = true) : own l n <+: own (l ++ [x]) n := by
  obtain ⟨h1, h2⟩ := longest_grows hf
  rw [own_step h hf]
  split
  · exact pick_grows ((own_long h).trans h1) h2
  · exact List.prefix_refl _
theorem cnt_grows {c : Int} {a b : List UInt8} (h : a <+: b) : cnt c a ≤ cnt c b := by
  obtain ⟨r, rfl⟩ := h; rw [cnt_append]; omega
theorem both_fit {m : Int} {l : List Line} {x y : Line} (h : Good m l) (hx : x ∈ l) (hy : y ∈ l) : fit x.view y.view = true := by
  simp only [fit, decide_eq_true_eq]
  rcases Nat.le_total x.view.length y.view.length with hl | hl
  · exact .inr (pre_len (h x hx).2 (h y hy).2 hl)
  · exact .inl (pre_len (h y hy).2 (h x hx).2 hl)
theorem same_word {m n : Int} {l l' : List Line} (h : Good m l) (hm : ∀ x, x ∈ l' ↔ x ∈ l) : word l' n = word l n := by
  have hp : word l' n <+: (longest l).view := by
    rcases word_mem (n := n) (l := l') with h1 | ⟨x, hx, _, h1⟩
    · rw [h1]; exact List.nil_prefix
    · rw [h1]; exact (h x ((hm x).1 hx)).2
  have h1 : (word l' n).length ≤ (word l n).length := by
    rcases word_mem (n := n) (l := l') with h1 | ⟨x, hx, h2, h1⟩
    · rw [h1]; simp
    · rw [h1]; exact word_max ((hm x).1 hx) h2
  have h2 : (word l n).length ≤ (word l' n).length := by
    rcases word_mem (n := n) (l := l) with h1 | ⟨x, hx, h2, h1⟩
    · rw [h1]; simp
    · rw [h1]; exact word_max ((hm x).2 hx) h2
  exact (pre_len hp (word_long h) h1).eq_of_length_le h2
theorem same_own {m n : Int} {l l' : List Line} (h : Good m l) (hm : ∀ x, x ∈ l' ↔ x ∈ l) : own l' n = own l n := by
  have hp : own l' n <+: (longest l).view := by
    rcases own_mem (n := n) (l := l') with h1 | ⟨x, hx, _, _, h1⟩
    · rw [h1]; exact List.nil_prefix
    · rw [h1]; exact (h x ((hm x).1 hx)).2
  have h1 : (own l' n).length ≤ (own l n).length := by
    rcases own_mem (n := n) (l := l') with h1 | ⟨x, hx, h2, h3, h1⟩
    · rw [h1]; simp
    · rw [h1]; exact own_max ((hm x).1 hx) h2 h3
  have h2 : (own l n).length ≤ (own l' n).length := by
    rcases own_mem (n := n) (l := l) with h1 | ⟨x, hx, h2, h3, h1⟩
    · rw [h1]; simp
    · rw [h1]; exact own_max ((hm x).2 hx) h2 h3
  exact (pre_len hp (own_long h) h1).eq_of_length_le h2
theorem longest_in {m : Int} {l l' : List Line} (h : Good m l) (hm : ∀ x, x ∈ l' → x ∈ l) : (longest l').view <+: (longest l).view := by
  rcases longest_mem (l := l') with h1 | h1
  · rw [h1]; exact List.nil_prefix
  · exact (h _ (hm _ h1)).2
theorem same_longest {m : Int} {l l' : List Line} (h : Good m l) (hm : ∀ x, x ∈ l' ↔ x ∈ l) : (longest l').view = (longest l).view := by
  refine (longest_in h fun x hx => (hm x).1 hx).eq_of_length_le ?_
  rcases longest_mem (l := l) with h1 | h1
  · rw [h1]; simp [line0]
  · exact longest_max ((hm _).2 h1)
theorem sub_learn {m : Int} {l l' : List Line} {x : Line} (h : Good m l) (hm : ∀ x, x ∈ l' → x ∈ l) (hx : x ∈ l) : learnE m l' x = 0 := by
  rw [learnE_cases]
  refine ⟨(h x hx).1, ?_⟩
  simp only [fit, decide_eq_true_eq]
  rcases Nat.le_total (longest l').view.length x.view.length with hl | hl
  · exact .inr (pre_len (longest_in h hm) (h x hx).2 hl)
  · exact .inl (pre_len (h x hx).2 (longest_in h hm) hl)

def stable (n : Nat) (me : Int) (l : List Line) : List Int := (List.range n).map fun (i : Nat) => ((cnt me (word l i) : Nat) : Int)
def minL : List Int → Int
  | [] => 0
  | x :: r => r.foldl min x
def owns (n : Nat) (me : Int) (l : List Line) : List Int := (List.range n).map fun (i : Nat) => ((cnt me (own l i) : Nat) : Int)
theorem minL_snoc {l : List Int} {y : Int} (h : l ≠ []) : minL (l ++ [y]) = min (minL l) y := by
  cases l with
  | nil => exact absurd rfl h
  | cons x r => simp [minL, List.foldl_append]

def seenTo (me : Nat) (l : List Line) (i : Nat) : List Int := ((List.range i).filter fun k => decide (k ≠ me)).map fun (k : Nat) => ((cnt me (own l k) : Nat) : Int)
def seenL (n me : Nat) (l : List Line) : List Int := (owns n me l).take me ++ (owns n me l).drop (me + 1)
theorem seenTo_succ {me : Nat} {l : List Line} {i : Nat} : seenTo me l (i + 1) = if i = me then seenTo me l i else seenTo me l i ++ [((cnt me (own l i) : Nat) : Int)] := by
  unfold seenTo
  rw [List.range_succ, List.filter_append]
  by_cases h : i = me
  · rw [if_pos h]; simp [h]
  · rw [if_neg h]; simp [h]
theorem seenTo_all {n me : Nat} {l : List Line} (hm : me < n) : seenTo me l n = seenL n me l := by
  unfold seenTo seenL owns
  rw [← List.map_take, ← List.map_drop, ← List.map_append]
  congr 1
  have e : List.range n = (List.range n).take me ++ me :: (List.range n).drop (me + 1) := by
    have h := List.take_append_drop me (List.range n)
    rw [List.drop_eq_getElem_cons (by simpa using hm)] at h
    simp only [List.getElem_range] at h
    exact h.symm
  rw [e, List.filter_append, List.filter_cons]
  have h1 : ((List.range n).take me).filter (fun k => decide (k ≠ me)) = (List.range n).take me := by
    rw [List.filter_eq_self]
    intro a ha
    rw [List.take_range] at ha
    have := List.mem_range.1 ha
    simp; omega
  have h2 : ((List.range n).drop (me + 1)).filter (fun k => decide (k ≠ me)) = (List.range n).drop (me + 1) := by
    rw [List.filter_eq_self]
    intro a ha
    obtain ⟨i, hi, rfl⟩ := List.mem_iff_getElem.1 ha
    simp
    omega
  rw [h1, h2]
  simp only [ne_eq, not_true_eq_false, decide_false, Bool.false_eq_true, if_false]
  rw [← e]
theorem foldl_min_le : ∀ {l : List Int} {a b : Int}, (∀ x ∈ l, x ≤ a) → l ≠ [] → (∀ x ∈ l, x ≤ b) → l.foldl min a = l.foldl min b
  | [], _, _, _, h, _ => absurd rfl h
  | x :: r, a, b, h1, _, h2 => by
    have e1 : min a x = x := Int.min_eq_right (h1 x (by simp))
    have e2 : min b x = x := Int.min_eq_right (h2 x (by simp))
    simp only [List.foldl_cons, e1, e2]
theorem minL_fold {l : List Int} {a : Int} (h : ∀ x ∈ l, x ≤ a) (hne : l ≠ []) : l.foldl min a = minL l := by
  cases l with
  | nil => exact absurd rfl hne
  | cons x r =>
    simp only [List.foldl_cons, minL]
    rw [Int.min_eq_right (h x (by simp))]
theorem own_bound {n : Int} {l : List Line} {m : Nat} (hb : ∀ x ∈ l, x.view.length ≤ m) : (own l n).length ≤ m := by
  rcases own_mem (n := n) (l := l) with h | ⟨x, hx, _, _, h⟩
  · rw [h]; simp
  · rw [h]; exact hb x hx
theorem cnt_le {c : Int} {h : List UInt8} : cnt c h ≤ h.length := List.countP_le_length
theorem seen_fold {n me : Nat} {l : List Line} (hm : me < n) (hn : 2 ≤ n) (hb : ∀ x ∈ l, x.view.length ≤ 9999) : (seenTo me l n).foldl min 9999 = minL (seenL n me l) := by
  rw [← seenTo_all hm]
  refine minL_fold ?_ ?_
  · intro x hx
    obtain ⟨k, _, rfl⟩ := List.mem_map.1 hx
    have h1 := cnt_le (c := me) (h := own l k)
    have h2 := own_bound (n := k) hb
    omega
  · intro h0
    rw [seenTo_all hm] at h0
    have h1 := congrArg List.length h0
    rw [seenL, List.length_append, List.length_take, List.length_drop, List.length_nil] at h1
    have h2 : (owns n me l).length = n := by simp [owns]
    omega
end Go.Aff.L16

/- Walking: structs as elements, arrays as values, two owners at once. -/
namespace Go.Aff
set_option linter.unusedVariables false
set_option linter.unusedSimpArgs false

variable {P : Program} {σ σ' : AST} {K : AV → AST → Prop} {KV : AV → Prop} {KS : AST → Prop}

theorem fits_agg {t n : Nat} (ha : aggT P t = some true) (hc : P.cellsOf t = n) {v : AV} : fits P t v = (v.isAgg = true ∧ v.size = n) := by
  unfold fits
  rw [ha, hc, eq_iff_iff]
  constructor
  · rintro ⟨h1, h2⟩; exact ⟨(Option.some.inj h1).symm, h2.symm⟩
  · rintro ⟨h1, h2⟩; exact ⟨by rw [h1], h2.symm⟩
theorem shape_agg {ps : List AV} : (AV.agg ps).shape = .node (AV.shapes ps) := by simp [AV.shape]
theorem shapes_nil : AV.shapes [] = [] := rfl
theorem shapes_cons {p : AV} {r : List AV} : AV.shapes (p :: r) = p.shape :: AV.shapes r := by simp [AV.shapes]
theorem shape_dig {d : Dig} : (AV.dig d).shape = .dig := by simp [AV.shape]
theorem fill_nil {t : TypeId} {v : AV} : fillW P t [] v KV = KV v := by cases v <;> rfl
theorem fill_cons {t : TypeId} {i : Nat} {x : AV} {r : List (Nat × AV)} {ps : List AV} {u : AV} (hu : ps[i]? = some u) (h1 : partIs P t ps i x) (h2 : u.shape = x.shape) (h3 : x.known = true) (hK : fillW P t r (.agg (ps.set i x)) KV) :
    fillW P t ((i, x) :: r) (.agg ps) KV := by
  unfold fillW
  exact ⟨u, hu, h1, h2, h3, hK⟩
/-- An array of texts, as a value. -/
theorem index_strs {t e n : Nat} {xs : List (List UInt8)} {i : Nat} {x : List UInt8} {q : IntKind} (hu : P.underlying t = some (.array n e)) (ha : aggT P e = some false) (hc : P.cellsOf e = 1) (hl : xs.length = n) (hi : xs[i]? = some x) (hK : KV (.str x)) :
    indexW P t (.agg (xs.map AV.str)) (.int q i) KV := by
  have hin : i < n := by rw [← hl]; exact (List.getElem?_eq_some_iff.1 hi).1
  have hsz : ∀ l : List (List UInt8), AV.sizes (l.map AV.str) = l.length := by
    intro l
    induction l with
    | nil => rfl
    | cons a r ih => simp only [List.map_cons, AV.sizes, AV.size, ih, List.length_cons]; omega
  unfold indexW
  refine ⟨by omega, by simp; omega, fun z hz => ?_⟩
  simp only [Int.toNat_natCast, List.getElem?_map, hi, Option.map_some, Option.some.injEq] at hz
  subst hz
  refine ⟨⟨e, ?_, ?_⟩, ⟨e, by rw [List.length_map, hl]; exact hu⟩, hK⟩
  · unfold placeOf
    rw [Int.toNat_natCast, hu]; simp only; rw [if_pos hin, hc, ← List.map_take, hsz, List.length_take]
    congr 2; omega
  · rw [fits_leaf ha hc]; exact ⟨rfl, by simp [AV.size]⟩

/-! ### Two owners -/
def apart (a b : Tk) : Prop := ∀ k, a = .own k → b ≠ .own k
theorem apart_full {b : Tk} : apart .full b := fun k h => by cases h
theorem apart.symm {a b : Tk} (h : apart a b) : apart b a := fun k h1 h2 => h k h2 h1
theorem canApp_apart {a b : Tk} {n m e f : Nat} (h : apart a b) (hc : canApp σ b m f) : canApp (growS σ a n e) b m f := by
  cases b with
  | none => exact hc.elim
  | lit => exact hc.elim
  | full => trivial
  | own k =>
    simp only [canApp] at hc ⊢
    cases a with
    | none => exact hc
    | lit => exact hc
    | full =>
      simp only [growS, AST.tok]
      rw [List.getElem?_append_left (List.getElem?_eq_some_iff.1 hc).1]; exact hc
    | own j =>
      have hne : j ≠ k := fun e => by subst e; exact h j rfl rfl
      simp only [growS, AST.setTok]
      rw [List.getElem?_set_ne hne]; exact hc
theorem apart_grow {a b : Tk} {m f : Nat} (h : apart a b) (hc : canApp σ b m f) : apart (growT σ a) b := by
  cases a with
  | full =>
    intro k hk
    cases hk
    intro e
    subst e
    have := (List.getElem?_eq_some_iff.1 hc).1
    omega
  | own j => exact h
  | none => exact h
  | lit => exact h
theorem canApp_push {tk : Tk} {n e : Nat} {o : AObj} : canApp (σ.push o) tk n e = canApp σ tk n e := by cases tk <;> rfl
theorem canApp_app {tk : Tk} {n e : Nat} {l : List AObj} : canApp (σ.app l) tk n e = canApp σ tk n e := by cases tk <;> rfl
theorem canApp_set {tk : Tk} {n e i : Nat} {o : AObj} : canApp (σ.set i o) tk n e = canApp σ tk n e := by cases tk <;> rfl
/-- What a slice is when its owner is forgotten. -/
def slS {α : Type} (f : α → AV) (l : List α) : AV := if l = [] then .slice .full [] else .slice .none (l.map f)
theorem slS_nil {α : Type} {f : α → AV} : slS f [] = .slice .full [] := rfl
/-- A slice of which one knows: nil, or somebody's. -/
def tkF {α : Type} (l : List α) (tk : Tk) : Prop := (l = [] ∧ tk = .full) ∨ (l ≠ [] ∧ ∃ k, tk = .own k)
theorem strips_leaf {α : Type} {f : α → AV} (h : ∀ x, (f x).strip = f x) : ∀ {l : List α}, AV.strips (l.map f) = l.map f
  | [] => by simp [AV.strips]
  | x :: r => by simp [AV.strips, h x, strips_leaf h (l := r)]
theorem strip_tkF {α : Type} {f : α → AV} (h : ∀ x, (f x).strip = f x) {l : List α} {tk : Tk} (ht : tkF l tk) : (AV.slice tk (l.map f)).strip = slS f l := by
  rcases ht with ⟨rfl, rfl⟩ | ⟨hne, k, rfl⟩
  · simp [slS, AV.strip]
  · simp only [slS, if_neg hne, AV.strip]
    rw [strips_leaf h]
theorem strip_slS {α : Type} {f : α → AV} (h : ∀ x, (f x).strip = f x) {l : List α} : (slS f l).strip = slS f l := by
  unfold slS
  split
  · simp [AV.strip]
  · rename_i hne
    cases l with
    | nil => exact absurd rfl hne
    | cons x r => simp [AV.strip, strips_leaf h, AV.strips, h x]
theorem noRefs_leaf {α : Type} {f : α → AV} (h : ∀ x, (f x).noRef = true) : ∀ {l : List α}, AV.noRefs (l.map f) = true
  | [] => rfl
  | x :: r => by simp [AV.noRefs, h x, noRefs_leaf h (l := r)]
theorem noRef_slS {α : Type} {f : α → AV} (h : ∀ x, (f x).noRef = true) {l : List α} : (slS f l).noRef = true := by
  unfold slS; split
  · rfl
  · simp only [AV.noRef]; exact noRefs_leaf h
theorem slS_tk {α : Type} {f : α → AV} {l : List α} : ∃ tk, slS f l = .slice tk (l.map f) := by
  unfold slS; split
  · rename_i h; subst h; exact ⟨.full, rfl⟩
  · exact ⟨.none, rfl⟩
theorem objs_ext {σ s : AST} {l : List AObj} (h : Ext (σ.app l) s) {k : Nat} (hk : k < l.length) : s.objs[σ.objs.length + k]? = l[k]? := by
  obtain ⟨O, T, rfl⟩ := h
  simp only [AST.app, List.append_assoc]
  rw [List.getElem?_append_right (by omega), show σ.objs.length + k - σ.objs.length = k by omega, List.getElem?_append_left hk]
theorem cell_ext {σ s : AST} {l : List AObj} (h : Ext (σ.app l) s) {k : Nat} {v : AV} (hk : l[k]? = some (.cells v)) (p : List Nat) : cellAt s (σ.objs.length + k) p = v.at p := by
  simp only [cellAt, objs_ext h (List.getElem?_eq_some_iff.1 hk).1, hk, Option.bind_some, objCell]
theorem cell_ext0 {σ s : AST} {l : List AObj} (h : Ext (σ.app l) s) {v : AV} (hk : l[0]? = some (.cells v)) (p : List Nat) : cellAt s σ.objs.length p = v.at p := cell_ext (k := 0) h hk p
attribute [go_sem] shape_agg shapes_nil shapes_cons shape_dig
end Go.Aff

/- Drawn regions, again: what is read ahead of everything that is left behind need not stay. Stores into parts. -/
namespace Go.Aff
set_option linter.unusedVariables false
set_option linter.unusedSimpArgs false

variable {P : Program} {σ σ' : AST} {ops : Array Oper} {τ : Env} {KE : Env → AST → Prop}

/-- What an operation is: 0: it reads, and that must stay; 1: it may leave something behind; 2: it reads, and stands ahead of all that is left behind later. -/
def seqF (P : Program) (ops : Array Oper) : List (Nat × Nat) → List Nat → Env → AST → (Env → AST → Prop) → Prop
  | [], ks, τ, σ, K => K τ σ
  | (i, 1) :: r, ks, τ, σ, K => match gop ops i with
    | none => False
    | some o => stepW P ops o τ σ fun v σ' => keeps ks σ σ' ∧ seqF P ops r ks (τ.putO o.dst v) σ' K
  | (i, 0) :: r, ks, τ, σ, K => match gop ops i with
    | none => False
    | some o => stepW P ops o τ σ fun v σ' => σ' = σ ∧ seqF P ops r (reads (ev τ) o.op ++ ks) (τ.putO o.dst v) σ' K
  | (i, _) :: r, ks, τ, σ, K => match gop ops i with
    | none => False
    | some o => stepW P ops o τ σ fun v σ' => σ' = σ ∧ seqF P ops r ks (τ.putO o.dst v) σ' K

def flagsF (P : Program) (ops : Array Oper) : List (Nat × Nat) → Bool
  | [] => true
  | (i, k) :: r => (match ops[i]? with
    | none => false
    | some o => effO P o == (k == 1)) && (k == 0 || k == 1 || r.all fun y => y.2 != 1 || ahead (anc ops) y.1 i) && flagsF P ops r

def pastF (P : Program) (ops : Array Oper) (ks : List Nat) (past : List (Nat × Env × AV)) (r : List (Nat × Nat)) (σ : AST) : Prop :=
  ∀ x ∈ past, (∀ o, ops[x.1]? = some o → (∀ t, lenOk (x.2.1 t)) ∧ effO P o = false ∧ (∀ k ∈ reads (ev x.2.1) o.op, k ∈ ks) ∧ stepW P ops o x.2.1 σ fun v' σ'' => v' = x.2.2 ∧ σ'' = σ) ∨ (∀ y ∈ r, y.2 = 1 → ahead (anc ops) y.1 x.1 = true)

theorem seqF_awpD : ∀ (l : List (Nat × Nat)) (ks : List Nat) (past : List (Nat × Env × AV)) (τ : Env) (σ : AST), flagsF P ops l = true → pastF P ops ks past l σ → (∀ t, lenOk (τ t)) → seqF P ops l ks τ σ KE → awpD P ops (l.map (·.1)) past τ σ KE
  | [], ks, past, τ, σ, hf, hp, hlen, h => h
  | (i, 1) :: r, ks, past, τ, σ, hf, hp, hlen, h => by
    simp only [seqF] at h
    split at h
    · exact h.elim
    · rename_i o hk
      have hk : ops[i]? = some o := hk
      simp only [flagsF, hk, Bool.and_eq_true, beq_iff_eq] at hf
      have he : effO P o = true := by simpa using hf.1.1
      simp only [List.map_cons, awpD, hk, he, if_true]
      refine stepW_mono (fun v σ' hh => ?_) h
      refine ⟨fun x hx hah o ho => ?_, fun hlv => seqF_awpD r ks past _ _ hf.2 ?_ hlv hh.2⟩
      · rcases hp x hx with h0 | h0
        · obtain ⟨h1, h2, h3, h4⟩ := h0 o ho
          exact step_same h1 h2 (fun k hk => hh.1 k (h3 k hk)) h4
        · rw [h0 (i, 1) (by simp) rfl] at hah; cases hah
      · intro x hx
        rcases hp x hx with h0 | h0
        · left
          intro o ho
          obtain ⟨h1, h2, h3, h4⟩ := h0 o ho
          exact ⟨h1, h2, h3, step_same h1 h2 (fun k hk => hh.1 k (h3 k hk)) h4⟩
        · right
          intro y hy; exact h0 y (List.mem_cons_of_mem _ hy)
  | (i, 0) :: r, ks, past, τ, σ, hf, hp, hlen, h => by
    simp only [seqF] at h
    split at h
    · exact h.elim
    · rename_i o hk
      have hk : ops[i]? = some o := hk
      simp only [flagsF, hk, Bool.and_eq_true, beq_iff_eq] at hf
      have he : effO P o = false := by simpa using hf.1.1
      simp only [List.map_cons, awpD, hk, he, Bool.false_eq_true, if_false]
      obtain ⟨v, hv, hkk⟩ := stepW_det hlen he h
      refine hkk _ fun hlv => seqF_awpD r _ _ _ _ hf.2 ?_ hlv hv.2
      intro x hx
      rcases List.mem_cons.1 hx with rfl | hx
      · left
        intro o' ho'
        dsimp only at ho' ⊢
        rw [hk] at ho'; cases ho'
        exact ⟨hlen, he, fun k hk => List.mem_append_left _ hk, hkk _ ⟨rfl, rfl⟩⟩
      · rcases hp x hx with h0 | h0
        · left
          intro o' ho'
          obtain ⟨h1, h2, h3, h4⟩ := h0 o' ho'
          exact ⟨h1, h2, fun k hk => List.mem_append_right _ (h3 k hk), h4⟩
        · right; intro y hy; exact h0 y (List.mem_cons_of_mem _ hy)
  | (i, n + 2) :: r, ks, past, τ, σ, hf, hp, hlen, h => by
    simp only [seqF] at h
    split at h
    · exact h.elim
    · rename_i o hk
      have hk : ops[i]? = some o := hk
      simp only [flagsF, hk, Bool.and_eq_true, beq_iff_eq] at hf
      have he : effO P o = false := by simpa using hf.1.1
      have hall := hf.1.2
      simp only [List.map_cons, awpD, hk, he, Bool.false_eq_true, if_false]
      obtain ⟨v, hv, hkk⟩ := stepW_det hlen he h
      refine hkk _ fun hlv => seqF_awpD r _ _ _ _ hf.2 ?_ hlv hv.2
      intro x hx
      rcases List.mem_cons.1 hx with rfl | hx
      · right
        intro y hy h1
        have hall : (r.all fun y => y.2 != 1 || ahead (anc ops) y.1 i) = true := by simpa using hall
        rw [List.all_eq_true] at hall
        have := hall y hy
        simpa [h1] using this
      · rcases hp x hx with h0 | h0
        · exact .inl h0
        · right; intro y hy; exact h0 y (List.mem_cons_of_mem _ hy)

theorem awp_drawF {id : Nat} {ops : Array Oper} {Q : Exit → Env → AST → Prop} (ord : List (Nat × Nat)) (ho : (ordOk P ops (ord.map (·.1)) && flagsF P ops ord) = true) (h : seqF P ops ord [] τ σ (Q .normal)) : awp P (.region id ops true) Q τ σ := by
  rw [Bool.and_eq_true] at ho
  exact awp_draw _ ho.1 fun hlen => seqF_awpD ord [] [] τ σ ho.2 (fun x hx => by simp at hx) hlen h

def seqF0 (P : Program) (ops : Array Oper) (o : Option Oper) (r : List (Nat × Nat)) (ks : List Nat) (τ : Env) (σ : AST) (K : Env → AST → Prop) : Prop := match o with
  | none => False
  | some o => stepW P ops o τ σ fun v σ' => σ' = σ ∧ seqF P ops r (reads (ev τ) o.op ++ ks) (τ.putO o.dst v) σ' K
def seqF1 (P : Program) (ops : Array Oper) (o : Option Oper) (r : List (Nat × Nat)) (ks : List Nat) (τ : Env) (σ : AST) (K : Env → AST → Prop) : Prop := match o with
  | none => False
  | some o => stepW P ops o τ σ fun v σ' => keeps ks σ σ' ∧ seqF P ops r ks (τ.putO o.dst v) σ' K
def seqF2 (P : Program) (ops : Array Oper) (o : Option Oper) (r : List (Nat × Nat)) (ks : List Nat) (τ : Env) (σ : AST) (K : Env → AST → Prop) : Prop := match o with
  | none => False
  | some o => stepW P ops o τ σ fun v σ' => σ' = σ ∧ seqF P ops r ks (τ.putO o.dst v) σ' K
variable {ks : List Nat}
theorem seqF_nil : seqF P ops [] ks τ σ KE = KE τ σ := nr rfl
theorem seqF_1 {i : Nat} {r : List (Nat × Nat)} : seqF P ops ((i, 1) :: r) ks τ σ KE = seqF1 P ops (gop ops i) r ks τ σ KE := by simp only [seqF, seqF1]
theorem seqF_0 {i : Nat} {r : List (Nat × Nat)} : seqF P ops ((i, 0) :: r) ks τ σ KE = seqF0 P ops (gop ops i) r ks τ σ KE := by simp only [seqF, seqF0]
theorem seqF_2 {i : Nat} {r : List (Nat × Nat)} : seqF P ops ((i, 2) :: r) ks τ σ KE = seqF2 P ops (gop ops i) r ks τ σ KE := by simp only [seqF, seqF2]
theorem seqF1_some {o : Oper} {r : List (Nat × Nat)} : seqF1 P ops (some o) r ks τ σ KE = stepW P ops o τ σ (@Lam ⟨fun v σ' => @Later ⟨keeps ks σ σ' ∧ seqF P ops r ks (τ.putO o.dst v) σ' KE⟩⟩) := nr rfl
theorem seqF0_some {o : Oper} {r : List (Nat × Nat)} : seqF0 P ops (some o) r ks τ σ KE = stepW P ops o τ σ (@Lam ⟨fun v σ' => σ' = σ ∧ @Later ⟨seqF P ops r (reads (ev τ) o.op ++ ks) (τ.putO o.dst v) σ' KE⟩⟩) := nr rfl
theorem seqF2_some {o : Oper} {r : List (Nat × Nat)} : seqF2 P ops (some o) r ks τ σ KE = stepW P ops o τ σ (@Lam ⟨fun v σ' => σ' = σ ∧ @Later ⟨seqF P ops r ks (τ.putO o.dst v) σ' KE⟩⟩) := nr rfl
attribute [go_sem ↓] seqF_nil seqF_0 seqF_1 seqF_2 seqF0_some seqF1_some seqF2_some
theorem reads_buildSlice {ρ : Operand → AV} {t : TypeId} {n : Nat} {ps : Array (Nat × Operand)} : reads ρ (.buildSlice t n ps) = [] := rfl
attribute [go_sem] reads_buildSlice

theorem res_ct {a b : Nat} {ty : TypeId} {KV : AV → Prop} : resW P [.cell a ty, .tmp b] τ σ KV = loadW P σ ty (τ a) (@LamA _ ⟨fun x => (x.known = true ∧ (τ b).known = true) ∧ @Later ⟨KV (.tuple [x, τ b])⟩⟩) := by
  simp [resW, resList, oneRes, Later, LamA]
theorem res_tc {a b : Nat} {ty : TypeId} {KV : AV → Prop} : resW P [.tmp a, .cell b ty] τ σ KV = loadW P σ ty (τ b) (@LamA _ ⟨fun x => ((τ a).known = true ∧ x.known = true) ∧ @Later ⟨KV (.tuple [τ a, x])⟩⟩) := by
  simp [resW, resList, oneRes, Later, LamA]
attribute [go_sem ↓] res_ct res_tc
theorem growS_app {tk : Tk} {n e : Nat} {l : List AObj} : growS (σ.app l) tk n e = (growS σ tk n e).app l := by cases tk <;> rfl
theorem growT_app {tk : Tk} {l : List AObj} : growT (σ.app l) tk = growT σ tk := by cases tk <;> rfl
/-! ### Stores into parts -/
def setAtO (ps : List AV) (i : Nat) (p : List Nat) (x : AV) : Option AV → AV
  | some v => .agg (ps.set i (v.setAt p x))
  | none => .agg ps
theorem setAt_agg {ps : List AV} {i : Nat} {p : List Nat} {x : AV} : (AV.agg ps).setAt (i :: p) x = setAtO ps i p x ps[i]? := by
  simp only [AV.setAt]; cases ps[i]? <;> rfl
theorem setAtO_some {ps : List AV} {i : Nat} {p : List Nat} {x v : AV} : setAtO ps i p x (some v) = .agg (ps.set i (v.setAt p x)) := rfl
def setOkO (p : List Nat) (x : AV) : Option AV → Prop
  | some v => setOk v p x
  | none => True
theorem setOk_agg {ps : List AV} {i : Nat} {p : List Nat} {x : AV} : setOk (.agg ps) (i :: p) x = setOkO p x ps[i]? := by
  simp only [setOk, eq_iff_iff]
  cases h : ps[i]? with
  | none => simp [setOkO]
  | some v => simp [setOkO]
theorem setOkO_some {p : List Nat} {x v : AV} : setOkO p x (some v) = setOk v p x := rfl
attribute [go_sem] setAt_agg setAtO_some setOk_agg setOkO_some
end Go.Aff

