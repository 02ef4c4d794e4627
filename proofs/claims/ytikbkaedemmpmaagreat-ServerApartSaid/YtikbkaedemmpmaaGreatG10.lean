import Derived.Test.YtikbkaedemmpmaaGreatG9
import Derived.Test.YtikbkaedemmpmaaGreatG7
import Derived.Test.YtikbkaedemmpmaaGreatG8

set_option linter.unusedSimpArgs false
set_option linter.unusedVariables false

namespace Go.Aff.L01
open Go.Proofs Go.Aff
set_option maxRecDepth 20000
attribute [local go_sem] Tryz.underlying9 Tryz.underlying40 fits3

def readL {α : Type} (one : Nat → α × Int × Int) (s : List UInt8) (p : Nat) (acc : List α) : List α × Int × Int :=
  if p = s.length then ([], 0, 5) else
  if bAt s p = 41 then (acc, ((p + 1 : Nat) : Int), 0) else
  if 512 ≤ acc.length then ([], 0, 4) else
  if (one p).2.2 ≠ 0 then ([], 0, (one p).2.2) else
  if h : (p : Int) < (one p).2.1 ∧ (one p).2.1 ≤ s.length then readL one s (one p).2.1.toNat (acc ++ [(one p).1]) else ([], 0, 5)
termination_by s.length - p
decreasing_by omega

def readR {α : Type} (one : Nat → α × Int × Int) (s : List UInt8) (i : Int) : List α × Int × Int :=
  if i < 0 ∨ (s.length : Int) < i then ([], 0, 3) else
  if i.toNat = s.length then ([], 0, 5) else
  if bAt s i.toNat ≠ 40 then ([], 0, 6) else readL one s (i.toNat + 1) []
def tupL {α : Type} (f : α → AV) (x : List α × Int × Int) : AV := .tuple [if x.1 = [] then .slice .full [] else .slice .none (x.1.map f), .int .i64 x.2.1, .int .i64 x.2.2]
def tk' {α : Type} (l : List α) : Tk := if l = [] then .full else .none

theorem strip_own {k : Nat} {xs : List AV} : (AV.slice (.own k) xs).strip = .slice .none (AV.strips xs) := by simp [AV.strip]
theorem strips_map {α : Type} {f : α → AV} (h : ∀ x, (f x).strip = f x) : ∀ {l : List α}, AV.strips (l.map f) = l.map f
  | [] => rfl
  | x :: r => by simp [AV.strips, h, strips_map h (l := r)]
theorem noRefs_map {α : Type} {f : α → AV} (h : ∀ x, (f x).noRef = true) : ∀ {l : List α}, AV.noRefs (l.map f) = true
  | [] => rfl
  | x :: r => by simp [AV.noRefs, h, noRefs_map h (l := r)]

theorem numR_nat {s : List UInt8} {q : Nat} (h : q ≤ s.length) : numR s q = numP s q := by
  rw [numR, if_neg (by omega)]; simp
theorem textR_nat {s : List UInt8} {q : Nat} (h : q ≤ s.length) : textR s q = textP s q := by
  rw [textR, if_neg (by omega)]; simp
theorem numP_prog {s : List UInt8} {q : Nat} (h : q ≤ s.length) : (numP s q).2.2 = 0 → (q : Int) < (numP s q).2.1 ∧ (numP s q).2.1 ≤ s.length := by
  have hl : lowB s q = true → q < s.length := fun h => by simp [lowB] at h; exact h.1
  unfold numP
  generalize hw : lowB s q = low at *
  generalize hq : (if low = true then q + 1 else q) = r
  have hr : q ≤ r ∧ r ≤ s.length := by rw [← hq]; split; (have := hl (by assumption); omega); omega
  have hel := dend_le hr.2
  have heq : r ≤ dend s r := by unfold dend; omega
  generalize (if low = true then 9223372036854775808 else 9223372036854775807) = most
  unfold numT
  split
  · intro h0; dsimp only at h0; contradiction
  · split
    · intro h0; cases h0
    · split
      · intro h0; cases h0
      · intro _
        rename_i h1 _ _ _
        have := shape_ok (by simpa using h1) hel
        dsimp only; omega
theorem textP_prog {s : List UInt8} {q : Nat} (h : q ≤ s.length) : (textP s q).2.2 = 0 → (q : Int) < (textP s q).2.1 ∧ (textP s q).2.1 ≤ s.length := by
  have hel := dend_le h
  have heq : q ≤ dend s q := by unfold dend; omega
  unfold textP
  split
  · intro h0; dsimp only at h0; contradiction
  · split
    · intro h0; cases h0
    · split
      · intro h0; cases h0
      · intro _
        dsimp only; omega
theorem readNumber_n {s : List UInt8} {q : Nat} (h : q ≤ s.length) (hs : s.length ≤ 9223372036854775807) {σ : AST} {K : AV → AST → Prop} (hK : K (tup3 (numP s q)) σ) : TCalls Tryz.prog 101 [.str s, .int .i64 q] σ K :=
  readNumber_c (by omega) (by omega) (by rw [numR_nat h]; exact hK)
theorem readInts_c {s : List UInt8} {i : Int} (hi0 : -9223372036854775808 ≤ i) (hi1 : i ≤ 9223372036854775807) {σ : AST} {K : AV → AST → Prop}
    (hK : K (tupL (AV.int .i64) (readR (numP s) s i)) σ) : TCalls Tryz.prog 140 [.str s, .int .i64 i, .fn (.func 101) [] []] σ K := by
  refine TCalls.drop ?_
  refine tcalls_walk Tryz.f140 _ [.tmp 6, .tmp 7, .tmp 8] Tryz.func140 rfl rfl rfl mixed (Nat.le_of_ble_eq_true rfl) rfl fun hlen => ?_
  have hs : s.length ≤ 9223372036854775807 := hlen (.str s) (by simp)
  have leaf : ∀ x, ((AV.int .i64) x).strip = (AV.int .i64) x ∧ ((AV.int .i64) x).noRef = true := fun x => ⟨by simp [AV.strip], rfl⟩
  have nil : ∀ (a b : Int) (s' : AST), Ext σ s' → K (tupL (AV.int .i64) ([], a, b)) σ → Ext σ s' ∧ (AV.tuple [.slice .full [], .int .i64 a, .int .i64 b]).noRef = true ∧ K (AV.tuple [.slice .full [], .int .i64 a, .int .i64 b]).strip σ := fun a b s' hx h => ⟨hx, rfl, h⟩
  refine awp_seq_k fun KA hKA => ?_
  simp -dsimp only [↓reduceIte, go_sem]
  refine hKA _ _ (awp_seq_k fun KB hKB => ?_)
  have go : ∀ τ : Env, τ 0 = .str s → τ 1 = .int .i64 i → τ 2 = .fn (.func 101) [] [] → ¬ (i < 0 ∨ (s.length : Int) < i) → i.toNat ≠ s.length → bAt s i.toNat = 40 → KB τ σ := by
    intro τ t0 t1 t2 hok hne h40
    rw [readR, if_neg hok, if_neg hne, if_neg (by simp [h40])] at hK
    have hi : (i.toNat : Int) = i := by omega
    generalize hp : i.toNat = p at hi hK hne
    rw [← hi] at t1
    refine hKB _ _ ?_
    simp -dsimp only [↓reduceIte, go_sem, t0, t1, t2]
    rw [show IntKind.i64.wrap ((p : Int) + 1) = ((p + 1 : Nat) : Int) by rw [wrap_i64 (by omega) (by omega)]; omega]
    refine awp_rounds (fun (x : Nat × List Int) τ s' => x.1 ≤ s.length ∧ x.2.length ≤ 512 ∧ Ext σ s' ∧ τ 0 = .str s ∧ τ 1 = .int .i64 x.1 ∧ τ 2 = .fn (.func 101) [] [] ∧
      K (tupL (AV.int .i64) (readL (numP s) s x.1 x.2)) σ ∧ ∃ tk, (x.2 = [] ∧ tk = .full ∨ x.2 ≠ [] ∧ ∃ k, tk = .own k ∧ σ.toks.length ≤ k) ∧ canApp s' tk x.2.length 1 ∧ τ 9 = .slice tk (x.2.map (AV.int .i64))) (fun x => s.length - x.1) (p + 1, []) ?_ ?_
    · refine ⟨by dsimp only; omega, by simp, Ext.refl _, ?_, ?_, ?_, hK, .full, .inl ⟨rfl, rfl⟩, trivial, ?_⟩ <;> simp only [go_sem, t0, t1, t2] <;> rfl
    · rintro ⟨q, acc⟩ τ s' ⟨hq, hacc, hx, t0, t1, t2, hK, tk, htk, hcan, t9⟩
      dsimp only at hq hacc t1 hK htk hcan t9
      have htn : tkNew σ tk := by
        rcases htk with ⟨_, h⟩ | ⟨_, h⟩
        · exact .inl h
        · exact .inr h
      rw [readL] at hK
      simp -dsimp only [↓reduceIte, go_sem, t0, t1, t2, t9]
      refine arr_intro fun _ => ?_
      simp -dsimp only [↓reduceIte, go_sem, t0, t1, t2, t9]
      refine boolW_split (fun h1 => ?_) (fun h1 => ?_)
      · have h1 : q = s.length := by simp at h1; omega
        rw [if_pos h1] at hK
        simp -dsimp only [↓reduceIte, go_sem, t0, t1, t2, t9]
        exact nil _ _ _ hx hK
      · have h1 : ¬ q = s.length := by simp at h1; omega
        rw [if_neg h1] at hK
        obtain ⟨b, hb⟩ := get_lt (l := s) (i := q) (by omega)
        rw [bAt_of hb] at hK
        simp -dsimp only [↓reduceIte, go_sem, t0, t1, t2, t9]
        refine nth_get hb ?_
        simp -dsimp only [↓reduceIte, go_sem, t0, t1, t2, t9]
        refine boolW_split (fun h2 => ?_) (fun h2 => ?_)
        · have h2 : b.toNat = 41 := by simp at h2; omega
          rw [if_pos h2] at hK
          simp -dsimp only [↓reduceIte, go_sem, t0, t1, t2, t9]
          rw [show IntKind.i64.wrap ((q : Int) + 1) = ((q + 1 : Nat) : Int) by rw [wrap_i64 (by omega) (by omega)]; omega]
          refine ⟨hx, ?_, ?_⟩
          · simp only [AV.noRef, AV.noRefs, noRefs_map (fun x => (leaf x).2), Bool.and_true]
          · simp only [AV.strip, AV.strips]
            rcases htk with ⟨rfl, rfl⟩ | ⟨hn, k, rfl, _⟩
            · exact hK
            · rw [strip_own, strips_map (fun x => (leaf x).1)]
              rw [tupL, if_neg hn] at hK
              exact hK
        · have h2 : ¬ b.toNat = 41 := by simp at h2; omega
          rw [if_neg h2] at hK
          simp -dsimp only [↓reduceIte, go_sem, t0, t1, t2, t9]
          refine arr_intro fun _ => ?_
          simp only [List.length_map]
          simp -dsimp only [↓reduceIte, go_sem, t0, t1, t2, t9]
          refine boolW_split (fun h3 => ?_) (fun h3 => ?_)
          · have h3 : 512 ≤ acc.length := by simp at h3; omega
            rw [if_pos h3] at hK
            simp -dsimp only [↓reduceIte, go_sem, t0, t1, t2, t9]
            exact nil _ _ _ hx hK
          · have h3 : ¬ 512 ≤ acc.length := by simp at h3; omega
            rw [if_neg h3] at hK
            simp -dsimp only [↓reduceIte, go_sem, t0, t1, t2, t9]
            refine readNumber_n (by omega) (by omega) ?_
            have hpr := numP_prog (s := s) (q := q) (by omega)
            generalize numP s q = res at hK hpr
            obtain ⟨x, nx, e⟩ := res
            dsimp only at hK hpr
            simp only [tup3]
            simp -dsimp only [↓reduceIte, go_sem, t0, t1, t2, t9]
            refine boolW_split (fun h4 => ?_) (fun h4 => ?_)
            · have h4 : e ≠ 0 := by simpa using h4
              rw [if_pos h4] at hK
              simp -dsimp only [↓reduceIte, go_sem, t0, t1, t2, t9]
              exact nil _ _ _ hx hK
            · have h4 : e = 0 := by simpa using h4
              obtain ⟨hp1, hp2⟩ := hpr h4
              rw [if_neg (by simp [h4]), dif_pos ⟨hp1, hp2⟩] at hK
              simp -dsimp only [↓reduceIte, go_sem, t0, t1, t2, t9]
              refine build_slice E25 rfl (by decide) ?_ ?_
              · intro v hv
                simp at hv; subst hv
                exact ⟨by simp only [go_sem], rfl⟩
              simp -dsimp only [↓reduceIte, go_sem, t0, t1, t2, t9]
              refine append_slice E25 (by rfl) (by simpa using hcan) (by intro v hv; simp at hv; subst hv; simp only [go_sem]) (by intro v hv; simp at hv; obtain ⟨y, _, rfl⟩ := hv; simp only [go_sem]) (by simp; omega) (by simp [maxL]; omega) ?_
              simp -dsimp only [↓reduceIte, go_sem, t0, t1, t2, t9]
              refine later_intro ⟨(nx.toNat, acc ++ [x]), by dsimp only; omega, ?_⟩
              refine ⟨by dsimp only; omega, by simp; omega, hx.grow htn, ?_, ?_, ?_, hK, growT s' tk, ?_, ?_, ?_⟩ <;> (try simp only [go_sem, t0, t1, t2, t9])
              · rw [show ((nx.toNat : Nat) : Int) = nx by omega]
              · refine .inr ⟨by simp, ?_⟩
                rcases htn.grow hx with h | h
                · rcases htk with ⟨_, rfl⟩ | ⟨_, k, rfl, _⟩ <;> simp [growT] at h
                · exact h
              · have := canApp_grow (n := acc.length + 1) (es := 1) hcan
                simpa using this
              · simp
  have bad : i < 0 ∨ (s.length : Int) < i → K (tupL (AV.int .i64) ([], 0, 3)) σ := fun h => by
    rw [readR, if_pos h] at hK; exact hK
  simp -dsimp only [↓reduceIte, go_sem]
  refine guardV_split (fun h1 => ?_) (fun h1 => ?_) <;> (try rw [h1])
  · have h1 : ¬ i < 0 := by simpa using h1
    simp -dsimp only [↓reduceIte, go_sem]
    refine arr_intro fun _ => ?_
    simp -dsimp only [↓reduceIte, go_sem]
    refine boolW_split (fun h2 => ?_) (fun h2 => ?_)
    · have h2 : (s.length : Int) < i := by simpa using h2
      simp -dsimp only [↓reduceIte, go_sem]
      exact nil _ _ _ (Ext.refl _) (bad (.inr h2))
    · have h2 : ¬ (s.length : Int) < i := by simpa using h2
      have hok : ¬ (i < 0 ∨ (s.length : Int) < i) := by omega
      have hi : (i.toNat : Int) = i := by omega
      simp -dsimp only [↓reduceIte, go_sem]
      refine arr_intro fun _ => ?_
      simp -dsimp only [↓reduceIte, go_sem]
      refine boolW_split (fun h3 => ?_) (fun h3 => ?_)
      · have h3 : i.toNat = s.length := by simp at h3; omega
        rw [readR, if_neg hok, if_pos h3] at hK
        simp -dsimp only [↓reduceIte, go_sem]
        exact nil _ _ _ (Ext.refl _) hK
      · have h3 : i.toNat ≠ s.length := by simp at h3; omega
        obtain ⟨b, hb⟩ := get_lt (l := s) (i := i.toNat) (by omega)
        have hbb := bAt_of hb
        simp -dsimp only [↓reduceIte, go_sem]
        rw [← hi]
        refine nth_get hb ?_
        simp -dsimp only [↓reduceIte, go_sem]
        refine boolW_split (fun h4 => ?_) (fun h4 => ?_)
        · have h4 : bAt s i.toNat ≠ 40 := by rw [hbb]; simp at h4; omega
          rw [readR, if_neg hok, if_neg h3, if_pos h4] at hK
          simp -dsimp only [↓reduceIte, go_sem]
          exact nil _ _ _ (Ext.refl _) hK
        · have h4 : bAt s i.toNat = 40 := by rw [hbb]; simp at h4; omega
          simp -dsimp only [↓reduceIte, go_sem]
          refine go _ ?_ ?_ ?_ hok h3 h4 <;> simp only [go_sem, hi]
  · have h1 : i < 0 := by simpa using h1
    simp -dsimp only [↓reduceIte, go_sem]
    exact nil _ _ _ (Ext.refl _) (bad (.inl h1))


def openE (s : List UInt8) (i : Int) : Int := if i < 0 ∨ (s.length : Int) < i then 3 else if i.toNat = s.length then 5 else if bAt s i.toNat ≠ 40 then 6 else 0
theorem open_ok {s : List UInt8} {i : Int} (h : openE s i = 0) : ¬ (i < 0 ∨ (s.length : Int) < i) ∧ i.toNat ≠ s.length ∧ bAt s i.toNat = 40 := by
  unfold openE at h
  split at h
  · cases h
  · split at h
    · cases h
    · split at h
      · cases h
      · rename_i a b c; exact ⟨a, b, Classical.not_not.1 c⟩
theorem open_bad {α : Type} {one : Nat → α × Int × Int} {s : List UInt8} {i : Int} (h : openE s i ≠ 0) : readR one s i = ([], 0, openE s i) := by
  unfold openE at h ⊢; unfold readR
  split
  · rfl
  · split
    · rfl
    · split
      · rfl
      · rename_i a b c; rw [if_neg a, if_neg b, if_neg c] at h; exact absurd rfl h

theorem open_c {s : List UInt8} {i : Int} (hi0 : -9223372036854775808 ≤ i) (hi1 : i ≤ 9223372036854775807) {σ : AST} {K : AV → AST → Prop} (hK : K (.int .i64 (openE s i)) σ) : TCalls Tryz.prog 126 [.str s, .int .i64 i] σ K := by
  refine tcalls_walk Tryz.f126 _ [.tmp 4] Tryz.func126 rfl rfl rfl mixed (Nat.le_of_ble_eq_true rfl) rfl fun hlen => ?_
  unfold openE at hK
  have go : ∀ b, (decide (i < 0) = b) → True := fun _ _ => trivial
  simp -dsimp only [↓reduceIte, go_sem]
  refine guardV_split (fun h1 => ?_) (fun h1 => ?_) <;> (try rw [h1])
  · have h1 : ¬ i < 0 := by simpa using h1
    simp -dsimp only [↓reduceIte, go_sem]
    refine arr_intro fun _ => ?_
    simp -dsimp only [↓reduceIte, go_sem]
    refine boolW_split (fun h2 => ?_) (fun h2 => ?_)
    · have h2 : (s.length : Int) < i := by simpa using h2
      rw [if_pos (.inr h2)] at hK
      simp -dsimp only [↓reduceIte, go_sem]
      exact hK
    · have h2 : ¬ (s.length : Int) < i := by simpa using h2
      rw [if_neg (by omega)] at hK
      simp -dsimp only [↓reduceIte, go_sem]
      refine arr_intro fun _ => ?_
      simp -dsimp only [↓reduceIte, go_sem]
      refine boolW_split (fun h3 => ?_) (fun h3 => ?_)
      · have h3 : i.toNat = s.length := by simp at h3; omega
        rw [if_pos h3] at hK
        simp -dsimp only [↓reduceIte, go_sem]
        exact hK
      · have h3 : i.toNat ≠ s.length := by simp at h3; omega
        rw [if_neg h3] at hK
        obtain ⟨b, hb⟩ := get_lt (l := s) (i := i.toNat) (by omega)
        rw [bAt_of hb] at hK
        have hi : (i.toNat : Int) = i := by omega
        simp -dsimp only [↓reduceIte, go_sem]
        rw [← hi]
        refine nth_get hb ?_
        simp -dsimp only [↓reduceIte, go_sem]
        refine boolW_split (fun h4 => ?_) (fun h4 => ?_)
        · have h4 : b.toNat ≠ 40 := by simp at h4; omega
          rw [if_pos h4] at hK
          simp -dsimp only [↓reduceIte, go_sem]
          exact hK
        · have h4 : b.toNat = 40 := by simp at h4; omega
          rw [if_neg (by simp [h4])] at hK
          simp -dsimp only [↓reduceIte, go_sem]
          exact hK
  · have h1 : i < 0 := by simpa using h1
    rw [if_pos (.inl h1)] at hK
    simp -dsimp only [↓reduceIte, go_sem]
    exact hK

theorem ReadNumbers_c {s : List UInt8} {i : Int} (hi0 : -9223372036854775808 ≤ i) (hi1 : i ≤ 9223372036854775807) {σ : AST} {K : AV → AST → Prop}
    (hK : K (tupL (AV.int .i64) (readR (numP s) s i)) σ) : TCalls Tryz.prog 91 [.str s, .int .i64 i] σ K := by
  refine TCalls.drop ?_
  refine tcalls_walk Tryz.f91 _ [.tmp 4, .tmp 5, .tmp 6] Tryz.func91 rfl rfl rfl mixed (Nat.le_of_ble_eq_true rfl) rfl fun hlen => ?_
  have hs : s.length ≤ 9223372036854775807 := hlen (.str s) (by simp)
  have leaf : ∀ x, ((AV.int .i64) x).strip = (AV.int .i64) x ∧ ((AV.int .i64) x).noRef = true := fun x => ⟨by simp [AV.strip], rfl⟩
  have nil : ∀ (a b : Int) (s' : AST), Ext σ s' → K (tupL (AV.int .i64) ([], a, b)) σ → Ext σ s' ∧ (AV.tuple [.slice .full [], .int .i64 a, .int .i64 b]).noRef = true ∧ K (AV.tuple [.slice .full [], .int .i64 a, .int .i64 b]).strip σ := fun a b s' hx h => ⟨hx, rfl, h⟩
  simp -dsimp only [↓reduceIte, go_sem]
  refine open_c hi0 hi1 ?_
  by_cases ho : openE s i = 0
  · obtain ⟨hok, hne, h40⟩ := open_ok ho
    rw [ho]
    rw [readR, if_neg hok, if_neg hne, if_neg (by simp [h40])] at hK
    have hi : (i.toNat : Int) = i := by omega
    generalize hp : i.toNat = p at hi hK hne
    simp -dsimp only [↓reduceIte, go_sem]
    rw [← hi, show IntKind.i64.wrap ((p : Int) + 1) = ((p + 1 : Nat) : Int) by rw [wrap_i64 (by omega) (by omega)]; omega]
    refine awp_rounds (fun (x : Nat × List Int) τ s' => x.1 ≤ s.length ∧ x.2.length ≤ 512 ∧ Ext σ s' ∧ τ 0 = .str s ∧ τ 1 = .int .i64 x.1 ∧
      K (tupL (AV.int .i64) (readL (numP s) s x.1 x.2)) σ ∧ ∃ tk, (x.2 = [] ∧ tk = .full ∨ x.2 ≠ [] ∧ ∃ k, tk = .own k ∧ σ.toks.length ≤ k) ∧ canApp s' tk x.2.length 1 ∧ τ 8 = .slice tk (x.2.map (AV.int .i64))) (fun x => s.length - x.1) (p + 1, []) ?_ ?_
    · refine ⟨by dsimp only; omega, by simp, Ext.refl _, ?_, ?_, hK, .full, .inl ⟨rfl, rfl⟩, trivial, ?_⟩ <;> simp only [go_sem] <;> rfl
    · rintro ⟨q, acc⟩ τ s' ⟨hq, hacc, hx, t0, t1, hK, tk, htk, hcan, t9⟩
      dsimp only at hq hacc t1 hK htk hcan t9
      have htn : tkNew σ tk := by
        rcases htk with ⟨_, h⟩ | ⟨_, h⟩
        · exact .inl h
        · exact .inr h
      rw [readL] at hK
      simp -dsimp only [↓reduceIte, go_sem, t0, t1, t9]
      refine arr_intro fun _ => ?_
      simp -dsimp only [↓reduceIte, go_sem, t0, t1, t9]
      refine guardV_split (fun h1 => ?_) (fun h1 => ?_) <;> (try rw [h1])
      · have h1 : q < s.length := by simp at h1; omega
        rw [if_neg (by omega)] at hK
        obtain ⟨b, hb⟩ := get_lt h1
        rw [bAt_of hb] at hK
        simp -dsimp only [↓reduceIte, go_sem, t0, t1, t9]
        refine nth_get hb ?_
        simp -dsimp only [↓reduceIte, go_sem, t0, t1, t9]
        refine boolW_split (fun h2 => ?_) (fun h2 => ?_)
        · have h2 : ¬ b.toNat = 41 := by simp at h2; omega
          rw [if_neg h2] at hK
          simp -dsimp only [↓reduceIte, go_sem, t0, t1, t9]
          refine arr_intro fun _ => ?_
          simp only [List.length_map]
          simp -dsimp only [↓reduceIte, go_sem, t0, t1, t9]
          refine boolW_split (fun h3 => ?_) (fun h3 => ?_)
          · have h3 : 512 ≤ acc.length := by simp at h3; omega
            rw [if_pos h3] at hK
            simp -dsimp only [↓reduceIte, go_sem, t0, t1, t9]
            exact nil _ _ _ hx hK
          · have h3 : ¬ 512 ≤ acc.length := by simp at h3; omega
            rw [if_neg h3] at hK
            simp -dsimp only [↓reduceIte, go_sem, t0, t1, t9]
            refine ReadNumber_c (by omega) (by omega) ?_
            rw [numR_nat (by omega)]
            have hpr := numP_prog (s := s) (q := q) (by omega)
            generalize numP s q = res at hK hpr
            obtain ⟨x, nx, e⟩ := res
            dsimp only at hK hpr
            simp only [tup3]
            simp -dsimp only [↓reduceIte, go_sem, t0, t1, t9]
            refine boolW_split (fun h4 => ?_) (fun h4 => ?_)
            · have h4 : e ≠ 0 := by simpa using h4
              rw [if_pos h4] at hK
              simp -dsimp only [↓reduceIte, go_sem, t0, t1, t9]
              exact nil _ _ _ hx hK
            · have h4 : e = 0 := by simpa using h4
              obtain ⟨hp1, hp2⟩ := hpr h4
              rw [if_neg (by simp [h4]), dif_pos ⟨hp1, hp2⟩] at hK
              simp -dsimp only [↓reduceIte, go_sem, t0, t1, t9]
              refine build_slice E25 rfl (by decide) ?_ ?_
              · intro v hv
                simp at hv; subst hv
                exact ⟨by simp only [go_sem], rfl⟩
              simp -dsimp only [↓reduceIte, go_sem, t0, t1, t9]
              refine append_slice E25 (by rfl) (by simpa using hcan) (by intro v hv; simp at hv; subst hv; simp only [go_sem]) (by intro v hv; simp at hv; obtain ⟨y, _, rfl⟩ := hv; simp only [go_sem]) (by simp; omega) (by simp [maxL]; omega) ?_
              simp -dsimp only [↓reduceIte, go_sem, t0, t1, t9]
              refine later_intro ⟨(nx.toNat, acc ++ [x]), by dsimp only; omega, ?_⟩
              refine ⟨by dsimp only; omega, by simp; omega, hx.grow htn, ?_, ?_, hK, growT s' tk, ?_, ?_, ?_⟩ <;> (try simp only [go_sem, t0, t1, t9])
              · rw [show ((nx.toNat : Nat) : Int) = nx by omega]
              · refine .inr ⟨by simp, ?_⟩
                rcases htn.grow hx with h | h
                · rcases htk with ⟨_, rfl⟩ | ⟨_, k, rfl, _⟩ <;> simp [growT] at h
                · exact h
              · have := canApp_grow (n := acc.length + 1) (es := 1) hcan
                simpa using this
              · simp
        · have h2 : b.toNat = 41 := by simp at h2; omega
          rw [if_pos h2] at hK
          simp -dsimp only [↓reduceIte, go_sem, t0, t1, t9]
          refine arr_intro fun _ => ?_
          simp -dsimp only [↓reduceIte, go_sem, t0, t1, t9]
          refine boolW_split (fun h3 => ?_) (fun h3 => ?_)
          · simp at h3; omega
          · simp -dsimp only [↓reduceIte, go_sem, t0, t1, t9]
            rw [show IntKind.i64.wrap ((q : Int) + 1) = ((q + 1 : Nat) : Int) by rw [wrap_i64 (by omega) (by omega)]; omega]
            refine ⟨hx, ?_, ?_⟩
            · simp only [AV.noRef, AV.noRefs, noRefs_map (fun x => (leaf x).2), Bool.and_true]
            · simp only [AV.strip, AV.strips]
              rcases htk with ⟨rfl, rfl⟩ | ⟨hn, k, rfl, _⟩
              · exact hK
              · rw [strip_own, strips_map (fun x => (leaf x).1)]
                rw [tupL, if_neg hn] at hK
                exact hK
      · have h1 : q = s.length := by simp at h1; omega
        rw [if_pos h1] at hK
        simp -dsimp only [↓reduceIte, go_sem, t0, t1, t9]
        refine arr_intro fun _ => ?_
        simp -dsimp only [↓reduceIte, go_sem, t0, t1, t9]
        refine boolW_split (fun h3 => ?_) (fun h3 => ?_)
        · simp -dsimp only [↓reduceIte, go_sem, t0, t1, t9]
          exact nil _ _ _ hx hK
        · simp at h3; omega
  · have hb := open_bad (one := numP s) ho
    rw [hb] at hK
    simp -dsimp only [↓reduceIte, go_sem]
    rw [show (openE s i != 0) = true by simpa using ho]
    simp -dsimp only [↓reduceIte, go_sem]
    exact nil _ _ _ (Ext.refl _) hK


theorem readNumbers_c {s : List UInt8} {i : Int} (hi0 : -9223372036854775808 ≤ i) (hi1 : i ≤ 9223372036854775807) {σ : AST} {K : AV → AST → Prop}
    (hK : K (tupL (AV.int .i64) (readR (numP s) s i)) σ) : TCalls Tryz.prog 106 [.str s, .int .i64 i] σ K := by
  refine tcalls_walk Tryz.f106 _ [.tmp 4, .tmp 5, .tmp 6] Tryz.func106 rfl rfl rfl mixed (Nat.le_of_ble_eq_true rfl) rfl fun hlen => ?_
  simp -dsimp only [↓reduceIte, go_sem]
  refine readInts_c hi0 hi1 ?_
  unfold tupL at hK ⊢
  generalize readR (numP s) s i = r at hK ⊢
  obtain ⟨l, n, e⟩ := r
  dsimp only at hK ⊢
  split
  · rename_i h; rw [if_pos h] at hK
    simp -dsimp only [↓reduceIte, go_sem]
    exact hK
  · rename_i h; rw [if_neg h] at hK
    simp -dsimp only [↓reduceIte, go_sem]
    exact hK
theorem ints_c {a b : List Int} {ta tb : Tk} {σ : AST} {K : AV → AST → Prop} (hK : K (.bool (decide (a = b))) σ) : TCalls Tryz.prog 20 [.slice ta (a.map (AV.int .i64)), .slice tb (b.map (AV.int .i64))] σ K := by
  refine tcalls_walk Tryz.f20 _ [.tmp 4] Tryz.func20 rfl rfl rfl mixed (Nat.le_of_ble_eq_true rfl) rfl fun hlen => ?_
  have ha : a.length ≤ 9223372036854775807 := by
    have := hlen (.slice ta (a.map (AV.int .i64))) (by simp)
    simp only [lenOk, List.length_map, maxL] at this; exact this
  simp -dsimp only [↓reduceIte, go_sem]
  refine arr_intro fun _ => ?_
  simp -dsimp only [↓reduceIte, go_sem]
  refine arr_intro fun _ => ?_
  simp only [List.length_map]
  simp -dsimp only [↓reduceIte, go_sem]
  refine boolW_split (fun h1 => ?_) (fun h1 => ?_)
  · have h1 : a.length ≠ b.length := by simp at h1; omega
    simp -dsimp only [↓reduceIte, go_sem]
    rw [show decide (a = b) = false by simp; intro h; rw [h] at h1; exact h1 rfl] at hK
    exact hK
  · have h1 : a.length = b.length := by simp at h1; omega
    simp -dsimp only [↓reduceIte, go_sem]
    refine awp_rounds (fun (i : Nat) τ s => s = σ ∧ i ≤ a.length ∧ τ 0 = .slice ta (a.map (AV.int .i64)) ∧ τ 1 = .slice tb (b.map (AV.int .i64)) ∧ τ 5 = .int .i64 i ∧ a.take i = b.take i) (fun i => a.length - i) 0 ?_ ?_
    · refine ⟨rfl, by omega, ?_, ?_, ?_, by simp⟩ <;> simp only [go_sem] <;> rfl
    · rintro i τ s ⟨rfl, hi, t0, t1, t5, ht⟩
      simp -dsimp only [↓reduceIte, go_sem, t0, t1, t5]
      refine arr_intro fun _ => ?_
      simp only [List.length_map]
      simp -dsimp only [↓reduceIte, go_sem, t0, t1, t5]
      refine boolW_split (fun h2 => ?_) (fun h2 => ?_)
      · have h2 : i < a.length := by simp at h2; omega
        obtain ⟨x, hx⟩ := get_lt h2
        obtain ⟨y, hy⟩ := get_lt (l := b) (i := i) (by omega)
        simp -dsimp only [↓reduceIte, go_sem, t0, t1, t5]
        refine awp_drawS [0, 1, 2, 3, 4, 5, 6, 7, 8] (by kernel_rfl) ?_
        simp -dsimp only [↓reduceIte, go_sem, t0, t1, t5]
        refine nth_get hx ?_
        simp -dsimp only [↓reduceIte, go_sem, t0, t1, t5]
        refine nth_get hy ?_
        simp -dsimp only [↓reduceIte, go_sem, t0, t1, t5]
        refine boolW_split (fun h3 => ?_) (fun h3 => ?_)
        · have h3 : x ≠ y := by simpa using h3
          simp -dsimp only [↓reduceIte, go_sem, t0, t1, t5]
          rw [show decide (a = b) = false by simp; intro h; rw [h, hy] at hx; exact h3 (Option.some.inj hx).symm] at hK
          exact hK
        · have h3 : x = y := by simpa using h3
          simp -dsimp only [↓reduceIte, go_sem, t0, t1, t5]
          rw [wrap_i64 (by omega) (by omega)]
          refine later_intro ⟨i + 1, by omega, ?_⟩
          refine ⟨rfl, by omega, ?_, ?_, ?_, ?_⟩ <;> (try simp only [go_sem, t0, t1, t5]) <;> try rfl
          rw [List.take_add_one, List.take_add_one, ht, hx, hy, h3]
      · have h2 : i = a.length := by simp at h2; omega
        simp -dsimp only [↓reduceIte, go_sem, t0, t1, t5]
        rw [h2, List.take_length, h1, List.take_length] at ht
        rw [show decide (a = b) = true by simpa using ht] at hK
        exact hK

end Go.Aff.L01

namespace Go.Aff.L01
open Go.Proofs Go.Aff
set_option maxRecDepth 20000
theorem text_back {x y t : List UInt8} (ht : ¬ 16384 < t.length) : textP (x ++ (textS t ++ y)) x.length = (t, ((x.length + (textS t).length : Nat) : Int), 0) := by
  have c58 : isD 58 = false := by decide
  have e : x ++ (textS t ++ y) = x ++ (dg t.length ++ 58 :: (t ++ y)) := by simp [textS]
  have hd := dend_laid (x := x) (y := t ++ y) (c := 58) t.length c58
  have hg := digs_laid (x := x) (y := t ++ y) (c := 58) t.length c58
  have hsh := shape_laid (x := x) (y := t ++ y) (c := 58) t.length c58
  rw [show (58 : UInt8).toNat = 58 from rfl] at hsh
  rw [textP, e, hd, hg, val_dg, if_neg (not_not_intro hsh), if_neg ht, if_neg (by simp; omega)]
  have e2 : x ++ (dg t.length ++ 58 :: (t ++ y)) = (x ++ dg t.length ++ [58]) ++ (t ++ y) := by simp
  have hl : (x ++ dg t.length ++ [(58 : UInt8)]).length = x.length + (dg t.length).length + 1 := by simp; omega
  rw [e2]
  simp only [Prod.mk.injEq, and_true]
  constructor
  · rw [show x.length + (dg t.length).length + 1 + t.length = (x ++ dg t.length ++ [(58 : UInt8)] ++ t).length by simp; omega, ← List.append_assoc, List.take_left, ← hl, List.drop_left]
  · simp [textS]; omega

theorem readL_back {α : Type} {f : α → List UInt8} {one : Nat → α × Int × Int} {S y : List UInt8} {p : α → Prop}
    (hone : ∀ (u v : List UInt8) (a : α), p a → S = u ++ (f a ++ v) → (∃ b r, f a = b :: r ∧ b.toNat ≠ 41) ∧ one u.length = (a, ((u.length + (f a).length : Nat) : Int), 0)) :
    ∀ (l : List α) (acc : List α) (u : List UInt8), (∀ a ∈ l, p a) → S = u ++ (l.flatMap f ++ 41 :: y) → acc.length + l.length ≤ 512 → readL one S u.length acc = (acc ++ l, ((u.length + (l.flatMap f).length + 1 : Nat) : Int), 0)
  | [], acc, u, hp, hS, hl => by
    rw [readL, if_neg (by rw [hS]; simp), if_pos (by rw [hS]; simp only [List.flatMap_nil, List.nil_append]; rw [bAt_left]; rfl)]
    simp
  | a :: r, acc, u, hp, hS, hl => by
    have hS2 : S = u ++ (f a ++ (r.flatMap f ++ 41 :: y)) := by rw [hS]; simp
    obtain ⟨⟨b, t, hb, h41⟩, h1⟩ := hone u _ a (hp a (by simp)) hS2
    have hbt : bAt S u.length = b.toNat := by rw [hS2, hb, List.cons_append, bAt_left]
    have hlen : u.length + (f a).length ≤ S.length := by rw [hS2]; simp
    have hpos : 0 < (f a).length := by rw [hb]; simp
    simp only [List.length_cons] at hl
    rw [readL, if_neg (by rw [hS2, hb]; simp), if_neg (by rw [hbt]; exact h41), if_neg (by omega), h1]
    dsimp only
    rw [if_neg (by simp), dif_pos ⟨by omega, by omega⟩]
    have e : (((u.length + (f a).length : Nat) : Int)).toNat = (u ++ f a).length := by rw [Int.toNat_natCast, List.length_append]
    rw [e, readL_back (y := y) hone r (acc ++ [a]) (u ++ f a) (fun x hx => hp x (by simp [hx])) (by rw [hS2]; simp) (by simp; omega)]
    simp; omega

theorem list_back {α : Type} {f : α → List UInt8} {one : List UInt8 → Nat → α × Int × Int} {x y : List UInt8} {l : List α} {p : α → Prop} (hp : ∀ a ∈ l, p a) (hl : ¬ 512 < l.length)
    (hone : ∀ (u v : List UInt8) (a : α), p a → (∃ b r, f a = b :: r ∧ b.toNat ≠ 41) ∧ one (u ++ (f a ++ v)) u.length = (a, ((u.length + (f a).length : Nat) : Int), 0)) :
    readR (one (x ++ (laidAll f l ++ y))) (x ++ (laidAll f l ++ y)) x.length = (l, ((x.length + (laidAll f l).length : Nat) : Int), 0) := by
  have e : x ++ (laidAll f l ++ y) = (x ++ [40]) ++ (l.flatMap f ++ 41 :: y) := by simp [laidAll, part]
  rw [readR, if_neg (by simp; omega), if_neg (by simp [laidAll, part]), if_neg (by
    rw [show x ++ (laidAll f l ++ y) = x ++ 40 :: (l.flatMap f ++ 41 :: y) by simp [laidAll, part]]
    simp only [Int.toNat_natCast]; rw [bAt_left]; simp)]
  have h := readL_back (f := f) (one := one (x ++ (laidAll f l ++ y))) (S := x ++ (laidAll f l ++ y)) (y := y) (p := p) (fun u v a ha hS => by rw [hS]; exact hone u v a ha) l [] (x ++ [40]) hp e (by simp; omega)
  rw [show (x ++ [(40 : UInt8)]).length = (x.length : Int).toNat + 1 by simp] at h
  rw [h]
  simp [laidAll, part]; omega

theorem numS_first (n : Int) : ∃ b r, numS n = b :: r ∧ b.toNat ≠ 41 := by
  unfold numS
  split
  · exact ⟨45, _, rfl, by decide⟩
  · obtain ⟨b, r, hb⟩ := List.exists_cons_of_ne_nil (dg_ne (n := n.natAbs))
    have := dg_isD n.natAbs b (by rw [hb]; simp)
    simp [isD] at this
    exact ⟨b, r ++ [59], by rw [hb]; rfl, by omega⟩
theorem ints_back {x y : List UInt8} {l : List Int} (h : ∀ n ∈ l, -9223372036854775808 ≤ n ∧ n ≤ 9223372036854775807) (hl : ¬ 512 < l.length) :
    readR (numP (x ++ (laidAll numS l ++ y))) (x ++ (laidAll numS l ++ y)) x.length = (l, ((x.length + (laidAll numS l).length : Nat) : Int), 0) :=
  list_back (p := fun n => -9223372036854775808 ≤ n ∧ n ≤ 9223372036854775807) h hl fun u v a ha => ⟨numS_first a, num_back ha.1 ha.2⟩
end Go.Aff.L01

namespace Go.Aff.L10
open Go.Proofs Go.Aff Go.Aff.L01 Classical
set_option maxRecDepth 20000
def dig0 : Dig := ⟨List.replicate 32 0, by simp⟩
structure Sub where
  num : Int
  kind : Int
  target : Int
  value : List UInt8
  asked : Dig
  data : Dig
def sub0 : Sub := ⟨0, 0, 0, [], dig0, dig0⟩
def subPs (x : Sub) : List AV := [.int .i64 x.num, .int .i64 x.kind, .int .i64 x.target, .str x.value, .dig x.asked, .dig x.data]
abbrev subV (x : Sub) : AV := .agg (subPs x)
theorem subPs_0 {x : Sub} : (subPs x)[0]? = some (.int .i64 x.num) := nr rfl
theorem subAt_0 {x : Sub} {v : AV} : partIs Tryz.prog 34 (subPs x) 0 v = fits Tryz.prog 3 v := by rw [partIs_of (o := 0) (T := 3) (by kernel_rfl)]; simp [subPs, AV.sizes, AV.size]
theorem subSet_0 {x : Sub} {y : Int} : (subPs x).set 0 (.int .i64 y) = subPs { x with num := y } := nr rfl
theorem subPs_1 {x : Sub} : (subPs x)[1]? = some (.int .i64 x.kind) := nr rfl
theorem subAt_1 {x : Sub} {v : AV} : partIs Tryz.prog 34 (subPs x) 1 v = fits Tryz.prog 3 v := by rw [partIs_of (o := 1) (T := 3) (by kernel_rfl)]; simp [subPs, AV.sizes, AV.size]
theorem subSet_1 {x : Sub} {y : Int} : (subPs x).set 1 (.int .i64 y) = subPs { x with kind := y } := nr rfl
theorem subPs_2 {x : Sub} : (subPs x)[2]? = some (.int .i64 x.target) := nr rfl
theorem subAt_2 {x : Sub} {v : AV} : partIs Tryz.prog 34 (subPs x) 2 v = fits Tryz.prog 3 v := by rw [partIs_of (o := 2) (T := 3) (by kernel_rfl)]; simp [subPs, AV.sizes, AV.size]
theorem subSet_2 {x : Sub} {y : Int} : (subPs x).set 2 (.int .i64 y) = subPs { x with target := y } := nr rfl
theorem subPs_3 {x : Sub} : (subPs x)[3]? = some (.str x.value) := nr rfl
theorem subAt_3 {x : Sub} {v : AV} : partIs Tryz.prog 34 (subPs x) 3 v = fits Tryz.prog 9 v := by rw [partIs_of (o := 3) (T := 9) (by kernel_rfl)]; simp [subPs, AV.sizes, AV.size]
theorem subSet_3 {x : Sub} {y : List UInt8} : (subPs x).set 3 (.str y) = subPs { x with value := y } := nr rfl
theorem subPs_4 {x : Sub} : (subPs x)[4]? = some (.dig x.asked) := nr rfl
theorem subAt_4 {x : Sub} {v : AV} : partIs Tryz.prog 34 (subPs x) 4 v = fits Tryz.prog 32 v := by rw [partIs_of (o := 4) (T := 32) (by kernel_rfl)]; simp [subPs, AV.sizes, AV.size]
theorem subSet_4 {x : Sub} {y : Dig} : (subPs x).set 4 (.dig y) = subPs { x with asked := y } := nr rfl
theorem subPs_5 {x : Sub} : (subPs x)[5]? = some (.dig x.data) := nr rfl
theorem subAt_5 {x : Sub} {v : AV} : partIs Tryz.prog 34 (subPs x) 5 v = fits Tryz.prog 32 v := by rw [partIs_of (o := 36) (T := 32) (by kernel_rfl)]; simp [subPs, AV.sizes, AV.size]
theorem subSet_5 {x : Sub} {y : Dig} : (subPs x).set 5 (.dig y) = subPs { x with data := y } := nr rfl
theorem sizes_sub {x : Sub} : AV.sizes (subPs x) = 68 := by simp [subPs, AV.sizes, AV.size]
theorem shapes_sub {x : Sub} : AV.shapes (subPs x) = [.leaf, .leaf, .leaf, .leaf, .dig, .dig] := by simp [subPs, AV.shapes, AV.shape]
theorem fits_sub {v : AV} : fits Tryz.prog 34 v = (v.isAgg = true ∧ v.size = 68) := fits_agg (by kernel_rfl) (by kernel_rfl)
theorem zero_sub : zeroA Tryz.prog 12 34 = .agg (subPs sub0) := by kernel_rfl
theorem zt_sub : ZeroOf Tryz.prog 34 (.agg (subPs sub0)) = True := eq_true ⟨_, _, rfl, rfl, rfl, rfl, rfl⟩
theorem built_sub : Built Tryz.prog 34 = True := eq_true (by unfold Built; rw [Tryz.underlying34]; decide +kernel)
theorem strip_sub {x : Sub} : AV.strips (subPs x) = subPs x := by simp [subPs, AV.strips, AV.strip]
structure Pend where
  client : Int
  num : Int
  kind : Int
  target : Int
  asked : Dig
  proof : Dig
def pend0 : Pend := ⟨0, 0, 0, 0, dig0, dig0⟩
def pendPs (x : Pend) : List AV := [.int .i64 x.client, .int .i64 x.num, .int .i64 x.kind, .int .i64 x.target, .dig x.asked, .dig x.proof]
abbrev pendV (x : Pend) : AV := .agg (pendPs x)
theorem pendPs_0 {x : Pend} : (pendPs x)[0]? = some (.int .i64 x.client) := nr rfl
theorem pendAt_0 {x : Pend} {v : AV} : partIs Tryz.prog 138 (pendPs x) 0 v = fits Tryz.prog 3 v := by rw [partIs_of (o := 0) (T := 3) (by kernel_rfl)]; simp [pendPs, AV.sizes, AV.size]
theorem pendSet_0 {x : Pend} {y : Int} : (pendPs x).set 0 (.int .i64 y) = pendPs { x with client := y } := nr rfl
theorem pendPs_1 {x : Pend} : (pendPs x)[1]? = some (.int .i64 x.num) := nr rfl
theorem pendAt_1 {x : Pend} {v : AV} : partIs Tryz.prog 138 (pendPs x) 1 v = fits Tryz.prog 3 v := by rw [partIs_of (o := 1) (T := 3) (by kernel_rfl)]; simp [pendPs, AV.sizes, AV.size]
theorem pendSet_1 {x : Pend} {y : Int} : (pendPs x).set 1 (.int .i64 y) = pendPs { x with num := y } := nr rfl
theorem pendPs_2 {x : Pend} : (pendPs x)[2]? = some (.int .i64 x.kind) := nr rfl
theorem pendAt_2 {x : Pend} {v : AV} : partIs Tryz.prog 138 (pendPs x) 2 v = fits Tryz.prog 3 v := by rw [partIs_of (o := 2) (T := 3) (by kernel_rfl)]; simp [pendPs, AV.sizes, AV.size]
theorem pendSet_2 {x : Pend} {y : Int} : (pendPs x).set 2 (.int .i64 y) = pendPs { x with kind := y } := nr rfl
theorem pendPs_3 {x : Pend} : (pendPs x)[3]? = some (.int .i64 x.target) := nr rfl
theorem pendAt_3 {x : Pend} {v : AV} : partIs Tryz.prog 138 (pendPs x) 3 v = fits Tryz.prog 3 v := by rw [partIs_of (o := 3) (T := 3) (by kernel_rfl)]; simp [pendPs, AV.sizes, AV.size]
theorem pendSet_3 {x : Pend} {y : Int} : (pendPs x).set 3 (.int .i64 y) = pendPs { x with target := y } := nr rfl
theorem pendPs_4 {x : Pend} : (pendPs x)[4]? = some (.dig x.asked) := nr rfl
theorem pendAt_4 {x : Pend} {v : AV} : partIs Tryz.prog 138 (pendPs x) 4 v = fits Tryz.prog 32 v := by rw [partIs_of (o := 4) (T := 32) (by kernel_rfl)]; simp [pendPs, AV.sizes, AV.size]
theorem pendSet_4 {x : Pend} {y : Dig} : (pendPs x).set 4 (.dig y) = pendPs { x with asked := y } := nr rfl
theorem pendPs_5 {x : Pend} : (pendPs x)[5]? = some (.dig x.proof) := nr rfl
theorem pendAt_5 {x : Pend} {v : AV} : partIs Tryz.prog 138 (pendPs x) 5 v = fits Tryz.prog 32 v := by rw [partIs_of (o := 36) (T := 32) (by kernel_rfl)]; simp [pendPs, AV.sizes, AV.size]
theorem pendSet_5 {x : Pend} {y : Dig} : (pendPs x).set 5 (.dig y) = pendPs { x with proof := y } := nr rfl
theorem sizes_pend {x : Pend} : AV.sizes (pendPs x) = 68 := by simp [pendPs, AV.sizes, AV.size]
theorem shapes_pend {x : Pend} : AV.shapes (pendPs x) = [.leaf, .leaf, .leaf, .leaf, .dig, .dig] := by simp [pendPs, AV.shapes, AV.shape]
theorem fits_pend {v : AV} : fits Tryz.prog 138 v = (v.isAgg = true ∧ v.size = 68) := fits_agg (by kernel_rfl) (by kernel_rfl)
theorem zero_pend : zeroA Tryz.prog 12 138 = .agg (pendPs pend0) := by kernel_rfl
theorem zt_pend : ZeroOf Tryz.prog 138 (.agg (pendPs pend0)) = True := eq_true ⟨_, _, rfl, rfl, rfl, rfl, rfl⟩
theorem built_pend : Built Tryz.prog 138 = True := eq_true (by unfold Built; rw [Tryz.underlying138]; decide +kernel)
theorem strip_pend {x : Pend} : AV.strips (pendPs x) = pendPs x := by simp [pendPs, AV.strips, AV.strip]
theorem noRef_pend {x : Pend} : AV.noRefs (pendPs x) = true := by simp [pendPs, AV.noRefs, AV.noRef]
structure Rep where
  num : Int
  last : Int
  view : List UInt8
  commit : Dig
  pending : List Pend
  vnum : Int
  value : List UInt8
  data : Dig
  seen : List UInt8
  seenTag : Dig
def rep0 : Rep := ⟨0, 0, [], dig0, [], 0, [], dig0, [], dig0⟩
def repPs (t0 : Tk) (x : Rep) : List AV := [.int .i64 x.num, .int .i64 x.last, .str x.view, .dig x.commit, .slice t0 (x.pending.map pendV), .int .i64 x.vnum, .str x.value, .dig x.data, .str x.seen, .dig x.seenTag]
abbrev repV (t0 : Tk) (x : Rep) : AV := .agg (repPs t0 x)
theorem repPs_0 {t0 : Tk} {x : Rep} : (repPs t0 x)[0]? = some (.int .i64 x.num) := nr rfl
theorem repAt_0 {t0 : Tk} {x : Rep} {v : AV} : partIs Tryz.prog 37 (repPs t0 x) 0 v = fits Tryz.prog 3 v := by rw [partIs_of (o := 0) (T := 3) (by kernel_rfl)]; simp [repPs, AV.sizes, AV.size]
theorem repSet_0 {t0 : Tk} {x : Rep} {y : Int} : (repPs t0 x).set 0 (.int .i64 y) = repPs t0 { x with num := y } := nr rfl
theorem repPs_1 {t0 : Tk} {x : Rep} : (repPs t0 x)[1]? = some (.int .i64 x.last) := nr rfl
theorem repAt_1 {t0 : Tk} {x : Rep} {v : AV} : partIs Tryz.prog 37 (repPs t0 x) 1 v = fits Tryz.prog 3 v := by rw [partIs_of (o := 1) (T := 3) (by kernel_rfl)]; simp [repPs, AV.sizes, AV.size]
theorem repSet_1 {t0 : Tk} {x : Rep} {y : Int} : (repPs t0 x).set 1 (.int .i64 y) = repPs t0 { x with last := y } := nr rfl
theorem repPs_2 {t0 : Tk} {x : Rep} : (repPs t0 x)[2]? = some (.str x.view) := nr rfl
theorem repAt_2 {t0 : Tk} {x : Rep} {v : AV} : partIs Tryz.prog 37 (repPs t0 x) 2 v = fits Tryz.prog 9 v := by rw [partIs_of (o := 2) (T := 9) (by kernel_rfl)]; simp [repPs, AV.sizes, AV.size]
theorem repSet_2 {t0 : Tk} {x : Rep} {y : List UInt8} : (repPs t0 x).set 2 (.str y) = repPs t0 { x with view := y } := nr rfl
theorem repPs_3 {t0 : Tk} {x : Rep} : (repPs t0 x)[3]? = some (.dig x.commit) := nr rfl
theorem repAt_3 {t0 : Tk} {x : Rep} {v : AV} : partIs Tryz.prog 37 (repPs t0 x) 3 v = fits Tryz.prog 32 v := by rw [partIs_of (o := 3) (T := 32) (by kernel_rfl)]; simp [repPs, AV.sizes, AV.size]
theorem repSet_3 {t0 : Tk} {x : Rep} {y : Dig} : (repPs t0 x).set 3 (.dig y) = repPs t0 { x with commit := y } := nr rfl
theorem repPs_4 {t0 : Tk} {x : Rep} : (repPs t0 x)[4]? = some (.slice t0 (x.pending.map pendV)) := nr rfl
theorem repAt_4 {t0 : Tk} {x : Rep} {v : AV} : partIs Tryz.prog 37 (repPs t0 x) 4 v = fits Tryz.prog 35 v := by rw [partIs_of (o := 35) (T := 35) (by kernel_rfl)]; simp [repPs, AV.sizes, AV.size]
theorem repSet_4 {t0 : Tk} {u0 : Tk} {x : Rep} {y : List Pend} : (repPs t0 x).set 4 (.slice u0 (y.map pendV)) = repPs u0 { x with pending := y } := nr rfl
theorem repPs_5 {t0 : Tk} {x : Rep} : (repPs t0 x)[5]? = some (.int .i64 x.vnum) := nr rfl
theorem repAt_5 {t0 : Tk} {x : Rep} {v : AV} : partIs Tryz.prog 37 (repPs t0 x) 5 v = fits Tryz.prog 3 v := by rw [partIs_of (o := 36) (T := 3) (by kernel_rfl)]; simp [repPs, AV.sizes, AV.size]
theorem repSet_5 {t0 : Tk} {x : Rep} {y : Int} : (repPs t0 x).set 5 (.int .i64 y) = repPs t0 { x with vnum := y } := nr rfl
theorem repPs_6 {t0 : Tk} {x : Rep} : (repPs t0 x)[6]? = some (.str x.value) := nr rfl
theorem repAt_6 {t0 : Tk} {x : Rep} {v : AV} : partIs Tryz.prog 37 (repPs t0 x) 6 v = fits Tryz.prog 9 v := by rw [partIs_of (o := 37) (T := 9) (by kernel_rfl)]; simp [repPs, AV.sizes, AV.size]
theorem repSet_6 {t0 : Tk} {x : Rep} {y : List UInt8} : (repPs t0 x).set 6 (.str y) = repPs t0 { x with value := y } := nr rfl
theorem repPs_7 {t0 : Tk} {x : Rep} : (repPs t0 x)[7]? = some (.dig x.data) := nr rfl
theorem repAt_7 {t0 : Tk} {x : Rep} {v : AV} : partIs Tryz.prog 37 (repPs t0 x) 7 v = fits Tryz.prog 32 v := by rw [partIs_of (o := 38) (T := 32) (by kernel_rfl)]; simp [repPs, AV.sizes, AV.size]
theorem repSet_7 {t0 : Tk} {x : Rep} {y : Dig} : (repPs t0 x).set 7 (.dig y) = repPs t0 { x with data := y } := nr rfl
theorem repPs_8 {t0 : Tk} {x : Rep} : (repPs t0 x)[8]? = some (.str x.seen) := nr rfl
theorem repAt_8 {t0 : Tk} {x : Rep} {v : AV} : partIs Tryz.prog 37 (repPs t0 x) 8 v = fits Tryz.prog 9 v := by rw [partIs_of (o := 70) (T := 9) (by kernel_rfl)]; simp [repPs, AV.sizes, AV.size]
theorem repSet_8 {t0 : Tk} {x : Rep} {y : List UInt8} : (repPs t0 x).set 8 (.str y) = repPs t0 { x with seen := y } := nr rfl
theorem repPs_9 {t0 : Tk} {x : Rep} : (repPs t0 x)[9]? = some (.dig x.seenTag) := nr rfl
theorem repAt_9 {t0 : Tk} {x : Rep} {v : AV} : partIs Tryz.prog 37 (repPs t0 x) 9 v = fits Tryz.prog 32 v := by rw [partIs_of (o := 71) (T := 32) (by kernel_rfl)]; simp [repPs, AV.sizes, AV.size]
theorem repSet_9 {t0 : Tk} {x : Rep} {y : Dig} : (repPs t0 x).set 9 (.dig y) = repPs t0 { x with seenTag := y } := nr rfl
theorem sizes_rep {t0 : Tk} {x : Rep} : AV.sizes (repPs t0 x) = 103 := by simp [repPs, AV.sizes, AV.size]
theorem shapes_rep {t0 : Tk} {x : Rep} : AV.shapes (repPs t0 x) = [.leaf, .leaf, .leaf, .dig, .leaf, .leaf, .leaf, .dig, .leaf, .dig] := by simp [repPs, AV.shapes, AV.shape]
theorem fits_rep {v : AV} : fits Tryz.prog 37 v = (v.isAgg = true ∧ v.size = 103) := fits_agg (by kernel_rfl) (by kernel_rfl)
theorem zero_rep : zeroA Tryz.prog 12 37 = .agg (repPs .full rep0) := by kernel_rfl
theorem zt_rep : ZeroOf Tryz.prog 37 (.agg (repPs .full rep0)) = True := eq_true ⟨_, _, rfl, rfl, rfl, rfl, rfl⟩
theorem built_rep : Built Tryz.prog 37 = True := eq_true (by unfold Built; rw [Tryz.underlying37]; decide +kernel)
structure Blob where
  owner : Int
  num : Int
  cipher : List UInt8
  tag : Dig
def blob0 : Blob := ⟨0, 0, [], dig0⟩
def blobPs (x : Blob) : List AV := [.int .i64 x.owner, .int .i64 x.num, .str x.cipher, .dig x.tag]
abbrev blobV (x : Blob) : AV := .agg (blobPs x)
theorem blobPs_0 {x : Blob} : (blobPs x)[0]? = some (.int .i64 x.owner) := nr rfl
theorem blobAt_0 {x : Blob} {v : AV} : partIs Tryz.prog 39 (blobPs x) 0 v = fits Tryz.prog 3 v := by rw [partIs_of (o := 0) (T := 3) (by kernel_rfl)]; simp [blobPs, AV.sizes, AV.size]
theorem blobSet_0 {x : Blob} {y : Int} : (blobPs x).set 0 (.int .i64 y) = blobPs { x with owner := y } := nr rfl
theorem blobPs_1 {x : Blob} : (blobPs x)[1]? = some (.int .i64 x.num) := nr rfl
theorem blobAt_1 {x : Blob} {v : AV} : partIs Tryz.prog 39 (blobPs x) 1 v = fits Tryz.prog 3 v := by rw [partIs_of (o := 1) (T := 3) (by kernel_rfl)]; simp [blobPs, AV.sizes, AV.size]
theorem blobSet_1 {x : Blob} {y : Int} : (blobPs x).set 1 (.int .i64 y) = blobPs { x with num := y } := nr rfl
theorem blobPs_2 {x : Blob} : (blobPs x)[2]? = some (.str x.cipher) := nr rfl
theorem blobAt_2 {x : Blob} {v : AV} : partIs Tryz.prog 39 (blobPs x) 2 v = fits Tryz.prog 9 v := by rw [partIs_of (o := 2) (T := 9) (by kernel_rfl)]; simp [blobPs, AV.sizes, AV.size]
theorem blobSet_2 {x : Blob} {y : List UInt8} : (blobPs x).set 2 (.str y) = blobPs { x with cipher := y } := nr rfl
theorem blobPs_3 {x : Blob} : (blobPs x)[3]? = some (.dig x.tag) := nr rfl
theorem blobAt_3 {x : Blob} {v : AV} : partIs Tryz.prog 39 (blobPs x) 3 v = fits Tryz.prog 32 v := by rw [partIs_of (o := 3) (T := 32) (by kernel_rfl)]; simp [blobPs, AV.sizes, AV.size]
theorem blobSet_3 {x : Blob} {y : Dig} : (blobPs x).set 3 (.dig y) = blobPs { x with tag := y } := nr rfl
theorem sizes_blob {x : Blob} : AV.sizes (blobPs x) = 35 := by simp [blobPs, AV.sizes, AV.size]
theorem shapes_blob {x : Blob} : AV.shapes (blobPs x) = [.leaf, .leaf, .leaf, .dig] := by simp [blobPs, AV.shapes, AV.shape]
theorem fits_blob {v : AV} : fits Tryz.prog 39 v = (v.isAgg = true ∧ v.size = 35) := fits_agg (by kernel_rfl) (by kernel_rfl)
theorem zero_blob : zeroA Tryz.prog 12 39 = .agg (blobPs blob0) := by kernel_rfl
theorem zt_blob : ZeroOf Tryz.prog 39 (.agg (blobPs blob0)) = True := eq_true ⟨_, _, rfl, rfl, rfl, rfl, rfl⟩
theorem built_blob : Built Tryz.prog 39 = True := eq_true (by unfold Built; rw [Tryz.underlying39]; decide +kernel)
theorem strip_blob {x : Blob} : AV.strips (blobPs x) = blobPs x := by simp [blobPs, AV.strips, AV.strip]
structure Msg where
  kind : Int
  client : Int
  sub : Sub
  rep : Rep
  view : List UInt8
  by_ : Int
  tag : Dig
  own : Dig
  blob : Blob
  nums : List Int
def msg0 : Msg := ⟨0, 0, sub0, rep0, [], 0, dig0, dig0, blob0, []⟩
def msgPs (t0 t1 : Tk) (x : Msg) : List AV := [.int .i64 x.kind, .int .i64 x.client, .agg (subPs x.sub), .agg (repPs t0 x.rep), .str x.view, .int .i64 x.by_, .dig x.tag, .dig x.own, .agg (blobPs x.blob), .slice t1 (x.nums.map (AV.int .i64))]
abbrev msgV (t0 t1 : Tk) (x : Msg) : AV := .agg (msgPs t0 t1 x)
theorem msgPs_0 {t0 t1 : Tk} {x : Msg} : (msgPs t0 t1 x)[0]? = some (.int .i64 x.kind) := nr rfl
theorem msgAt_0 {t0 t1 : Tk} {x : Msg} {v : AV} : partIs Tryz.prog 42 (msgPs t0 t1 x) 0 v = fits Tryz.prog 3 v := by rw [partIs_of (o := 0) (T := 3) (by kernel_rfl)]; simp [msgPs, AV.sizes, AV.size]
theorem msgSet_0 {t0 t1 : Tk} {x : Msg} {y : Int} : (msgPs t0 t1 x).set 0 (.int .i64 y) = msgPs t0 t1 { x with kind := y } := nr rfl
theorem msgPs_1 {t0 t1 : Tk} {x : Msg} : (msgPs t0 t1 x)[1]? = some (.int .i64 x.client) := nr rfl
theorem msgAt_1 {t0 t1 : Tk} {x : Msg} {v : AV} : partIs Tryz.prog 42 (msgPs t0 t1 x) 1 v = fits Tryz.prog 3 v := by rw [partIs_of (o := 1) (T := 3) (by kernel_rfl)]; simp [msgPs, AV.sizes, AV.size]
theorem msgSet_1 {t0 t1 : Tk} {x : Msg} {y : Int} : (msgPs t0 t1 x).set 1 (.int .i64 y) = msgPs t0 t1 { x with client := y } := nr rfl
theorem msgPs_2 {t0 t1 : Tk} {x : Msg} : (msgPs t0 t1 x)[2]? = some (.agg (subPs x.sub)) := nr rfl
theorem msgAt_2 {t0 t1 : Tk} {x : Msg} {v : AV} : partIs Tryz.prog 42 (msgPs t0 t1 x) 2 v = fits Tryz.prog 34 v := by rw [partIs_of (o := 2) (T := 34) (by kernel_rfl)]; simp [msgPs, AV.sizes, AV.size]
theorem msgSet_2 {t0 t1 : Tk} {x : Msg} {y : Sub} : (msgPs t0 t1 x).set 2 (.agg (subPs y)) = msgPs t0 t1 { x with sub := y } := nr rfl
theorem msgPs_3 {t0 t1 : Tk} {x : Msg} : (msgPs t0 t1 x)[3]? = some (.agg (repPs t0 x.rep)) := nr rfl
theorem msgAt_3 {t0 t1 : Tk} {x : Msg} {v : AV} : partIs Tryz.prog 42 (msgPs t0 t1 x) 3 v = fits Tryz.prog 37 v := by rw [partIs_of (o := 70) (T := 37) (by kernel_rfl)]; simp [msgPs, AV.sizes, AV.size, sizes_sub]
theorem msgSet_3 {t0 t1 : Tk} {u0 : Tk} {x : Msg} {y : Rep} : (msgPs t0 t1 x).set 3 (.agg (repPs u0 y)) = msgPs u0 t1 { x with rep := y } := nr rfl
theorem msgPs_4 {t0 t1 : Tk} {x : Msg} : (msgPs t0 t1 x)[4]? = some (.str x.view) := nr rfl
theorem msgAt_4 {t0 t1 : Tk} {x : Msg} {v : AV} : partIs Tryz.prog 42 (msgPs t0 t1 x) 4 v = fits Tryz.prog 9 v := by rw [partIs_of (o := 173) (T := 9) (by kernel_rfl)]; simp [msgPs, AV.sizes, AV.size, sizes_sub, sizes_rep]
theorem msgSet_4 {t0 t1 : Tk} {x : Msg} {y : List UInt8} : (msgPs t0 t1 x).set 4 (.str y) = msgPs t0 t1 { x with view := y } := nr rfl
theorem msgPs_5 {t0 t1 : Tk} {x : Msg} : (msgPs t0 t1 x)[5]? = some (.int .i64 x.by_) := nr rfl
theorem msgAt_5 {t0 t1 : Tk} {x : Msg} {v : AV} : partIs Tryz.prog 42 (msgPs t0 t1 x) 5 v = fits Tryz.prog 3 v := by rw [partIs_of (o := 174) (T := 3) (by kernel_rfl)]; simp [msgPs, AV.sizes, AV.size, sizes_sub, sizes_rep]
theorem msgSet_5 {t0 t1 : Tk} {x : Msg} {y : Int} : (msgPs t0 t1 x).set 5 (.int .i64 y) = msgPs t0 t1 { x with by_ := y } := nr rfl
theorem msgPs_6 {t0 t1 : Tk} {x : Msg} : (msgPs t0 t1 x)[6]? = some (.dig x.tag) := nr rfl
theorem msgAt_6 {t0 t1 : Tk} {x : Msg} {v : AV} : partIs Tryz.prog 42 (msgPs t0 t1 x) 6 v = fits Tryz.prog 32 v := by rw [partIs_of (o := 175) (T := 32) (by kernel_rfl)]; simp [msgPs, AV.sizes, AV.size, sizes_sub, sizes_rep]
theorem msgSet_6 {t0 t1 : Tk} {x : Msg} {y : Dig} : (msgPs t0 t1 x).set 6 (.dig y) = msgPs t0 t1 { x with tag := y } := nr rfl
theorem msgPs_7 {t0 t1 : Tk} {x : Msg} : (msgPs t0 t1 x)[7]? = some (.dig x.own) := nr rfl
theorem msgAt_7 {t0 t1 : Tk} {x : Msg} {v : AV} : partIs Tryz.prog 42 (msgPs t0 t1 x) 7 v = fits Tryz.prog 32 v := by rw [partIs_of (o := 207) (T := 32) (by kernel_rfl)]; simp [msgPs, AV.sizes, AV.size, sizes_sub, sizes_rep]
theorem msgSet_7 {t0 t1 : Tk} {x : Msg} {y : Dig} : (msgPs t0 t1 x).set 7 (.dig y) = msgPs t0 t1 { x with own := y } := nr rfl
theorem msgPs_8 {t0 t1 : Tk} {x : Msg} : (msgPs t0 t1 x)[8]? = some (.agg (blobPs x.blob)) := nr rfl
theorem msgAt_8 {t0 t1 : Tk} {x : Msg} {v : AV} : partIs Tryz.prog 42 (msgPs t0 t1 x) 8 v = fits Tryz.prog 39 v := by rw [partIs_of (o := 239) (T := 39) (by kernel_rfl)]; simp [msgPs, AV.sizes, AV.size, sizes_sub, sizes_rep]
theorem msgSet_8 {t0 t1 : Tk} {x : Msg} {y : Blob} : (msgPs t0 t1 x).set 8 (.agg (blobPs y)) = msgPs t0 t1 { x with blob := y } := nr rfl
theorem msgPs_9 {t0 t1 : Tk} {x : Msg} : (msgPs t0 t1 x)[9]? = some (.slice t1 (x.nums.map (AV.int .i64))) := nr rfl
theorem msgAt_9 {t0 t1 : Tk} {x : Msg} {v : AV} : partIs Tryz.prog 42 (msgPs t0 t1 x) 9 v = fits Tryz.prog 40 v := by rw [partIs_of (o := 274) (T := 40) (by kernel_rfl)]; simp [msgPs, AV.sizes, AV.size, sizes_sub, sizes_rep, sizes_blob]
theorem msgSet_9 {t0 t1 : Tk} {u0 : Tk} {x : Msg} {y : List Int} : (msgPs t0 t1 x).set 9 (.slice u0 (y.map (AV.int .i64))) = msgPs t0 u0 { x with nums := y } := nr rfl
theorem sizes_msg {t0 t1 : Tk} {x : Msg} : AV.sizes (msgPs t0 t1 x) = 275 := by simp [msgPs, AV.sizes, AV.size, sizes_sub, sizes_rep, sizes_blob]
theorem shapes_msg {t0 t1 : Tk} {x : Msg} : AV.shapes (msgPs t0 t1 x) = [.leaf, .leaf, .node [.leaf, .leaf, .leaf, .leaf, .dig, .dig], .node [.leaf, .leaf, .leaf, .dig, .leaf, .leaf, .leaf, .dig, .leaf, .dig], .leaf, .leaf, .dig, .dig, .node [.leaf, .leaf, .leaf, .dig], .leaf] := by simp [msgPs, AV.shapes, AV.shape, shapes_sub, shapes_rep, shapes_blob]
theorem fits_msg {v : AV} : fits Tryz.prog 42 v = (v.isAgg = true ∧ v.size = 275) := fits_agg (by kernel_rfl) (by kernel_rfl)
theorem zero_msg : zeroA Tryz.prog 12 42 = .agg (msgPs .full .full msg0) := by kernel_rfl
theorem zt_msg : ZeroOf Tryz.prog 42 (.agg (msgPs .full .full msg0)) = True := eq_true ⟨_, _, rfl, rfl, rfl, rfl, rfl⟩
theorem built_msg : Built Tryz.prog 42 = True := eq_true (by unfold Built; rw [Tryz.underlying42]; decide +kernel)
structure At where
  n : Int
  e : Int
def at_0 : At := ⟨0, 0⟩
def at_Ps (x : At) : List AV := [.int .i64 x.n, .int .i64 x.e]
abbrev at_V (x : At) : AV := .agg (at_Ps x)
theorem at_Ps_0 {x : At} : (at_Ps x)[0]? = some (.int .i64 x.n) := nr rfl
theorem at_At_0 {x : At} {v : AV} : partIs Tryz.prog 110 (at_Ps x) 0 v = fits Tryz.prog 3 v := by rw [partIs_of (o := 0) (T := 3) (by kernel_rfl)]; simp [at_Ps, AV.sizes, AV.size]
theorem at_Set_0 {x : At} {y : Int} : (at_Ps x).set 0 (.int .i64 y) = at_Ps { x with n := y } := nr rfl
theorem at_Ps_1 {x : At} : (at_Ps x)[1]? = some (.int .i64 x.e) := nr rfl
theorem at_At_1 {x : At} {v : AV} : partIs Tryz.prog 110 (at_Ps x) 1 v = fits Tryz.prog 24 v := by rw [partIs_of (o := 1) (T := 24) (by kernel_rfl)]; simp [at_Ps, AV.sizes, AV.size]
theorem at_Set_1 {x : At} {y : Int} : (at_Ps x).set 1 (.int .i64 y) = at_Ps { x with e := y } := nr rfl
theorem sizes_at_ {x : At} : AV.sizes (at_Ps x) = 2 := by simp [at_Ps, AV.sizes, AV.size]
theorem shapes_at_ {x : At} : AV.shapes (at_Ps x) = [.leaf, .leaf] := by simp [at_Ps, AV.shapes, AV.shape]
theorem fits_at_ {v : AV} : fits Tryz.prog 110 v = (v.isAgg = true ∧ v.size = 2) := fits_agg (by kernel_rfl) (by kernel_rfl)
theorem zero_at_ : zeroA Tryz.prog 12 110 = .agg (at_Ps at_0) := by kernel_rfl
theorem zt_at_ : ZeroOf Tryz.prog 110 (.agg (at_Ps at_0)) = True := eq_true ⟨_, _, rfl, rfl, rfl, rfl, rfl⟩
theorem built_at_ : Built Tryz.prog 110 = True := eq_true (by unfold Built; rw [Tryz.underlying110]; decide +kernel)
theorem strip_at_ {x : At} : AV.strips (at_Ps x) = at_Ps x := by simp [at_Ps, AV.strips, AV.strip]
theorem noRef_at_ {x : At} : AV.noRefs (at_Ps x) = true := by simp [at_Ps, AV.noRefs, AV.noRef]
attribute [go_sem] push_app app_app length_app cellAt_app cellAt_app0 set_app set_app0 objs_app objs_app0 List.cons_append List.nil_append List.length_cons List.length_nil List.getElem?_cons_zero List.getElem?_cons_succ List.set_cons_zero List.set_cons_succ List.length_map
attribute [go_sem ↓] blockQ_exit2
theorem dig_ext {a b : Dig} : a.l = b.l ↔ a = b := by
  cases a; cases b; simp
theorem eq_int3 {n : Nat} {a b : Int} : eqA Tryz.prog (n + 1) 3 (.int .i64 a) (.int .i64 b) = some (a == b) := by
  simp [eqA, Tryz.underlying3]
theorem eq_str9 {n : Nat} {a b : List UInt8} : eqA Tryz.prog (n + 1) 9 (.str a) (.str b) = some (a == b) := by
  simp [eqA, Tryz.underlying9]
theorem eq_dig23 {n : Nat} {a b : Dig} : eqA Tryz.prog (n + 4) 32 (.dig a) (.dig b) = some (a.l == b.l) := by
  have h : digT Tryz.prog 32 = true := by kernel_rfl
  obtain ⟨_, e, h2, h3, h4⟩ := digT_iff h
  simp [eqA, h2, h3, h4]
theorem eqAs_cons {n i : Nat} {t : TypeId} {f : Field} {fs : List Field} {x y : AV} {xs ys ax ay : List AV} (h : (f.name ≠ "_" ∧ f.offset = AV.sizes (ax.take i) ∧ f.offset = AV.sizes (ay.take i) ∧ aggT Tryz.prog f.type = some x.isAgg ∧ Tryz.prog.cellsOf f.type = x.size ∧ aggT Tryz.prog f.type = some y.isAgg ∧ Tryz.prog.cellsOf f.type = y.size)) {b : Bool} (hb : eqA Tryz.prog n f.type x y = some b) :
    eqAs Tryz.prog (n + 1) t i (f :: fs) (x :: xs) (y :: ys) ax ay = if b = true then eqAs Tryz.prog n t (i + 1) fs xs ys ax ay else some false := by
  simp only [eqAs]
  rw [if_pos h, hb]
  cases b <;> rfl
theorem eq_sub {a b : Sub} : eqA Tryz.prog 40 34 (.agg (subPs a)) (.agg (subPs b)) = some (decide (a = b)) := by
  have hs : Tryz.prog.stoodInHeld 34 = false := by kernel_rfl
  simp only [eqA, Tryz.underlying34, hs, if_true]
  unfold subPs
  rw [eqAs_cons ⟨by decide, by simp [AV.sizes, AV.size], by simp [AV.sizes, AV.size], by kernel_rfl, by simp [AV.size]; kernel_rfl, by kernel_rfl, by simp [AV.size]; kernel_rfl⟩ eq_int3]
  refine (Classical.em (a.num = b.num)).elim (fun h0 => ?_) (fun h0 => by rw [if_neg (by simpa [dig_ext] using h0), decide_eq_false (fun e => h0 (congrArg Sub.num e))])
  rw [if_pos (by simpa [dig_ext] using h0)]
  rw [eqAs_cons ⟨by decide, by simp [AV.sizes, AV.size], by simp [AV.sizes, AV.size], by kernel_rfl, by simp [AV.size]; kernel_rfl, by kernel_rfl, by simp [AV.size]; kernel_rfl⟩ eq_int3]
  refine (Classical.em (a.kind = b.kind)).elim (fun h1 => ?_) (fun h1 => by rw [if_neg (by simpa [dig_ext] using h1), decide_eq_false (fun e => h1 (congrArg Sub.kind e))])
  rw [if_pos (by simpa [dig_ext] using h1)]
  rw [eqAs_cons ⟨by decide, by simp [AV.sizes, AV.size], by simp [AV.sizes, AV.size], by kernel_rfl, by simp [AV.size]; kernel_rfl, by kernel_rfl, by simp [AV.size]; kernel_rfl⟩ eq_int3]
  refine (Classical.em (a.target = b.target)).elim (fun h2 => ?_) (fun h2 => by rw [if_neg (by simpa [dig_ext] using h2), decide_eq_false (fun e => h2 (congrArg Sub.target e))])
  rw [if_pos (by simpa [dig_ext] using h2)]
  rw [eqAs_cons ⟨by decide, by simp [AV.sizes, AV.size], by simp [AV.sizes, AV.size], by kernel_rfl, by simp [AV.size]; kernel_rfl, by kernel_rfl, by simp [AV.size]; kernel_rfl⟩ eq_str9]
  refine (Classical.em (a.value = b.value)).elim (fun h3 => ?_) (fun h3 => by rw [if_neg (by simpa [dig_ext] using h3), decide_eq_false (fun e => h3 (congrArg Sub.value e))])
  rw [if_pos (by simpa [dig_ext] using h3)]
  rw [eqAs_cons ⟨by decide, by simp [AV.sizes, AV.size], by simp [AV.sizes, AV.size], by kernel_rfl, by simp [AV.size]; kernel_rfl, by kernel_rfl, by simp [AV.size]; kernel_rfl⟩ eq_dig23]
  refine (Classical.em (a.asked = b.asked)).elim (fun h4 => ?_) (fun h4 => by rw [if_neg (by simpa [dig_ext] using h4), decide_eq_false (fun e => h4 (congrArg Sub.asked e))])
  rw [if_pos (by simpa [dig_ext] using h4)]
  rw [eqAs_cons ⟨by decide, by simp [AV.sizes, AV.size], by simp [AV.sizes, AV.size], by kernel_rfl, by simp [AV.size]; kernel_rfl, by kernel_rfl, by simp [AV.size]; kernel_rfl⟩ eq_dig23]
  refine (Classical.em (a.data = b.data)).elim (fun h5 => ?_) (fun h5 => by rw [if_neg (by simpa [dig_ext] using h5), decide_eq_false (fun e => h5 (congrArg Sub.data e))])
  rw [if_pos (by simpa [dig_ext] using h5)]
  rw [decide_eq_true (by cases a; cases b; simp_all)]; simp only [eqAs]
theorem bin_sub_eql {a b : Sub} {KV : AV → Prop} : binW Tryz.prog .eql 34 (.agg (subPs a)) (.agg (subPs b)) KV = KV (.bool (decide (a = b))) := by
  have h : Tryz.prog.eqGuardType Tryz.prog.depth 34 = false := by kernel_rfl
  simp [binW, eqW, eq_sub, h]
theorem eq_pend {a b : Pend} : eqA Tryz.prog 40 138 (.agg (pendPs a)) (.agg (pendPs b)) = some (decide (a = b)) := by
  have hs : Tryz.prog.stoodInHeld 138 = false := by kernel_rfl
  simp only [eqA, Tryz.underlying138, hs, if_true]
  unfold pendPs
  rw [eqAs_cons ⟨by decide, by simp [AV.sizes, AV.size], by simp [AV.sizes, AV.size], by kernel_rfl, by simp [AV.size]; kernel_rfl, by kernel_rfl, by simp [AV.size]; kernel_rfl⟩ eq_int3]
  refine (Classical.em (a.client = b.client)).elim (fun h0 => ?_) (fun h0 => by rw [if_neg (by simpa [dig_ext] using h0), decide_eq_false (fun e => h0 (congrArg Pend.client e))])
  rw [if_pos (by simpa [dig_ext] using h0)]
  rw [eqAs_cons ⟨by decide, by simp [AV.sizes, AV.size], by simp [AV.sizes, AV.size], by kernel_rfl, by simp [AV.size]; kernel_rfl, by kernel_rfl, by simp [AV.size]; kernel_rfl⟩ eq_int3]
  refine (Classical.em (a.num = b.num)).elim (fun h1 => ?_) (fun h1 => by rw [if_neg (by simpa [dig_ext] using h1), decide_eq_false (fun e => h1 (congrArg Pend.num e))])
  rw [if_pos (by simpa [dig_ext] using h1)]
  rw [eqAs_cons ⟨by decide, by simp [AV.sizes, AV.size], by simp [AV.sizes, AV.size], by kernel_rfl, by simp [AV.size]; kernel_rfl, by kernel_rfl, by simp [AV.size]; kernel_rfl⟩ eq_int3]
  refine (Classical.em (a.kind = b.kind)).elim (fun h2 => ?_) (fun h2 => by rw [if_neg (by simpa [dig_ext] using h2), decide_eq_false (fun e => h2 (congrArg Pend.kind e))])
  rw [if_pos (by simpa [dig_ext] using h2)]
  rw [eqAs_cons ⟨by decide, by simp [AV.sizes, AV.size], by simp [AV.sizes, AV.size], by kernel_rfl, by simp [AV.size]; kernel_rfl, by kernel_rfl, by simp [AV.size]; kernel_rfl⟩ eq_int3]
  refine (Classical.em (a.target = b.target)).elim (fun h3 => ?_) (fun h3 => by rw [if_neg (by simpa [dig_ext] using h3), decide_eq_false (fun e => h3 (congrArg Pend.target e))])
  rw [if_pos (by simpa [dig_ext] using h3)]
  rw [eqAs_cons ⟨by decide, by simp [AV.sizes, AV.size], by simp [AV.sizes, AV.size], by kernel_rfl, by simp [AV.size]; kernel_rfl, by kernel_rfl, by simp [AV.size]; kernel_rfl⟩ eq_dig23]
  refine (Classical.em (a.asked = b.asked)).elim (fun h4 => ?_) (fun h4 => by rw [if_neg (by simpa [dig_ext] using h4), decide_eq_false (fun e => h4 (congrArg Pend.asked e))])
  rw [if_pos (by simpa [dig_ext] using h4)]
  rw [eqAs_cons ⟨by decide, by simp [AV.sizes, AV.size], by simp [AV.sizes, AV.size], by kernel_rfl, by simp [AV.size]; kernel_rfl, by kernel_rfl, by simp [AV.size]; kernel_rfl⟩ eq_dig23]
  refine (Classical.em (a.proof = b.proof)).elim (fun h5 => ?_) (fun h5 => by rw [if_neg (by simpa [dig_ext] using h5), decide_eq_false (fun e => h5 (congrArg Pend.proof e))])
  rw [if_pos (by simpa [dig_ext] using h5)]
  rw [decide_eq_true (by cases a; cases b; simp_all)]; simp only [eqAs]
theorem bin_pend_neq {a b : Pend} {KV : AV → Prop} : binW Tryz.prog .neq 138 (.agg (pendPs a)) (.agg (pendPs b)) KV = KV (.bool !(decide (a = b))) := by
  have h : Tryz.prog.eqGuardType Tryz.prog.depth 138 = false := by kernel_rfl
  simp [binW, eqW, eq_pend, h]
theorem eq_blob {a b : Blob} : eqA Tryz.prog 40 39 (.agg (blobPs a)) (.agg (blobPs b)) = some (decide (a = b)) := by
  have hs : Tryz.prog.stoodInHeld 39 = false := by kernel_rfl
  simp only [eqA, Tryz.underlying39, hs, if_true]
  unfold blobPs
  rw [eqAs_cons ⟨by decide, by simp [AV.sizes, AV.size], by simp [AV.sizes, AV.size], by kernel_rfl, by simp [AV.size]; kernel_rfl, by kernel_rfl, by simp [AV.size]; kernel_rfl⟩ eq_int3]
  refine (Classical.em (a.owner = b.owner)).elim (fun h0 => ?_) (fun h0 => by rw [if_neg (by simpa [dig_ext] using h0), decide_eq_false (fun e => h0 (congrArg Blob.owner e))])
  rw [if_pos (by simpa [dig_ext] using h0)]
  rw [eqAs_cons ⟨by decide, by simp [AV.sizes, AV.size], by simp [AV.sizes, AV.size], by kernel_rfl, by simp [AV.size]; kernel_rfl, by kernel_rfl, by simp [AV.size]; kernel_rfl⟩ eq_int3]
  refine (Classical.em (a.num = b.num)).elim (fun h1 => ?_) (fun h1 => by rw [if_neg (by simpa [dig_ext] using h1), decide_eq_false (fun e => h1 (congrArg Blob.num e))])
  rw [if_pos (by simpa [dig_ext] using h1)]
  rw [eqAs_cons ⟨by decide, by simp [AV.sizes, AV.size], by simp [AV.sizes, AV.size], by kernel_rfl, by simp [AV.size]; kernel_rfl, by kernel_rfl, by simp [AV.size]; kernel_rfl⟩ eq_str9]
  refine (Classical.em (a.cipher = b.cipher)).elim (fun h2 => ?_) (fun h2 => by rw [if_neg (by simpa [dig_ext] using h2), decide_eq_false (fun e => h2 (congrArg Blob.cipher e))])
  rw [if_pos (by simpa [dig_ext] using h2)]
  rw [eqAs_cons ⟨by decide, by simp [AV.sizes, AV.size], by simp [AV.sizes, AV.size], by kernel_rfl, by simp [AV.size]; kernel_rfl, by kernel_rfl, by simp [AV.size]; kernel_rfl⟩ eq_dig23]
  refine (Classical.em (a.tag = b.tag)).elim (fun h3 => ?_) (fun h3 => by rw [if_neg (by simpa [dig_ext] using h3), decide_eq_false (fun e => h3 (congrArg Blob.tag e))])
  rw [if_pos (by simpa [dig_ext] using h3)]
  rw [decide_eq_true (by cases a; cases b; simp_all)]; simp only [eqAs]
theorem bin_blob_eql {a b : Blob} {KV : AV → Prop} : binW Tryz.prog .eql 39 (.agg (blobPs a)) (.agg (blobPs b)) KV = KV (.bool (decide (a = b))) := by
  have h : Tryz.prog.eqGuardType Tryz.prog.depth 39 = false := by kernel_rfl
  simp [binW, eqW, eq_blob, h]
theorem bin_blob_neq {a b : Blob} {KV : AV → Prop} : binW Tryz.prog .neq 39 (.agg (blobPs a)) (.agg (blobPs b)) KV = KV (.bool !(decide (a = b))) := by
  have h : Tryz.prog.eqGuardType Tryz.prog.depth 39 = false := by kernel_rfl
  simp [binW, eqW, eq_blob, h]
theorem fits5 {v : AV} : fits Tryz.prog 5 v = (v.isAgg = false ∧ v.size = 1) := fits_leaf (by kernel_rfl) (by kernel_rfl)
theorem fits26 {v : AV} : fits Tryz.prog 35 v = (v.isAgg = false ∧ v.size = 1) := fits_leaf (by kernel_rfl) (by kernel_rfl)
theorem fits31 {v : AV} : fits Tryz.prog 40 v = (v.isAgg = false ∧ v.size = 1) := fits_leaf (by kernel_rfl) (by kernel_rfl)
theorem fits34 {v : AV} : fits Tryz.prog 24 v = (v.isAgg = false ∧ v.size = 1) := fits_leaf (by kernel_rfl) (by kernel_rfl)
theorem fits52 {v : AV} : fits Tryz.prog 123 v = (v.isAgg = false ∧ v.size = 1) := fits_leaf (by kernel_rfl) (by kernel_rfl)
theorem fits23 {v : AV} : fits Tryz.prog 32 v = (v.isAgg = true ∧ v.size = 32) := fits_agg (by kernel_rfl) (by kernel_rfl)
theorem zero3 : zeroA Tryz.prog 12 3 = .int .i64 0 := by kernel_rfl
theorem zt3 : ZeroOf Tryz.prog 3 (.int .i64 0) = True := eq_true ⟨_, _, rfl, rfl, rfl, rfl, rfl⟩
theorem zero23 : zeroA Tryz.prog 12 32 = .dig dig0 := by kernel_rfl
theorem zt23 : ZeroOf Tryz.prog 32 (.dig dig0) = True := eq_true ⟨_, _, rfl, rfl, rfl, rfl, rfl⟩
theorem slice23 {σ : AST} {KV : AV → Prop} {j : Nat} {p : List Nat} : sliceW Tryz.prog 32 (.ptr (some (j, p))) none none none KV = KV (.arr j p 32) := by
  have hu : Tryz.prog.underlying 32 = some (.array 32 5) := Tryz.underlying32
  simp only [sliceW, bndW, arrOfT, hu, eq_iff_iff]
  constructor
  · rintro ⟨e, n, h, _, _, _, _, _, h2⟩
    rcases h with ⟨a, h, _⟩ | h
    · cases h
    · cases h; exact h2
  · intro h
    exact ⟨5, 32, .inr rfl, by decide, ⟨_, Tryz.underlying5⟩, rfl, rfl, Nat.le_refl _, h⟩
theorem Sub.iff {a b : Sub} : a = b ↔ a.num = b.num ∧ a.kind = b.kind ∧ a.target = b.target ∧ a.value = b.value ∧ a.asked = b.asked ∧ a.data = b.data := by cases a; cases b; simp
theorem Pend.iff {a b : Pend} : a = b ↔ a.client = b.client ∧ a.num = b.num ∧ a.kind = b.kind ∧ a.target = b.target ∧ a.asked = b.asked ∧ a.proof = b.proof := by cases a; cases b; simp
theorem Rep.iff {a b : Rep} : a = b ↔ a.num = b.num ∧ a.last = b.last ∧ a.view = b.view ∧ a.commit = b.commit ∧ a.pending = b.pending ∧ a.vnum = b.vnum ∧ a.value = b.value ∧ a.data = b.data ∧ a.seen = b.seen ∧ a.seenTag = b.seenTag := by cases a; cases b; simp
theorem Blob.iff {a b : Blob} : a = b ↔ a.owner = b.owner ∧ a.num = b.num ∧ a.cipher = b.cipher ∧ a.tag = b.tag := by cases a; cases b; simp
theorem Msg.iff {a b : Msg} : a = b ↔ a.kind = b.kind ∧ a.client = b.client ∧ a.sub = b.sub ∧ a.rep = b.rep ∧ a.view = b.view ∧ a.by_ = b.by_ ∧ a.tag = b.tag ∧ a.own = b.own ∧ a.blob = b.blob ∧ a.nums = b.nums := by cases a; cases b; simp
theorem bin_dig23_eql {KV : AV → Prop} {a b : Dig} : binW Tryz.prog .eql 32 (.dig a) (.dig b) KV = KV (.bool (a.l == b.l)) := bin_dig_eql (by kernel_rfl)
theorem bin_dig23_neq {KV : AV → Prop} {a b : Dig} : binW Tryz.prog .neq 32 (.dig a) (.dig b) KV = KV (.bool !(a.l == b.l)) := bin_dig_neq (by kernel_rfl)
end Go.Aff.L10

namespace Go.Aff.L10
open Go.Proofs Go.Aff Go.Aff.L01 Classical

def In (lo hi n : Int) : Prop := lo ≤ n ∧ n ≤ hi
def ViewOk (k : Int) (h : List UInt8) : Prop := (∀ b ∈ h, (b.toNat : Int) < k) ∧ h.length ≤ 512 ∧ 1 ≤ k ∧ k ≤ 256
def Sub.Ok (x : Sub) : Prop := In 1 512 x.num ∧ In 1 2 x.kind ∧ In 0 7 x.target ∧ x.value.length ≤ 256
def Pend.Ok (p : Pend) : Prop := In 0 7 p.client ∧ In 0 7 p.target ∧ In 1 512 p.num ∧ In 1 2 p.kind
def Rep.Ok (x : Rep) : Prop := (∀ p ∈ x.pending, p.Ok) ∧ In 1 512 x.num ∧ In (-1) 7 x.last ∧ (x.view = [] ↔ x.last = -1) ∧ x.pending.length ≤ 8 ∧ ViewOk 8 x.view ∧ ViewOk 8 x.seen ∧ In 0 512 x.vnum ∧ x.value.length ≤ 256
def Blob.Ok (b : Blob) : Prop := In 0 7 b.owner ∧ In 0 1099511627776 b.num ∧ b.cipher.length ≤ 4096
def NumsOk (l : List Int) : Prop := (∀ (i : Nat) n, l[i]? = some n → In 0 1099511627776 n ∧ ∀ m, 0 < i → l[i - 1]? = some m → m < n) ∧ In 1 64 l.length
def Msg.own_ (m : Msg) : Msg :=
  if m.kind = 1 then { msg0 with kind := m.kind, client := m.client, sub := m.sub }
  else if m.kind = 2 then { msg0 with kind := m.kind, client := 0, rep := m.rep }
  else if m.kind = 3 then { msg0 with kind := m.kind, client := m.client, view := m.view, tag := m.tag }
  else if m.kind = 4 ∨ m.kind = 6 then { msg0 with kind := m.kind, client := 0, blob := m.blob }
  else if m.kind = 5 ∨ m.kind = 7 ∨ m.kind = 8 then { msg0 with kind := m.kind, client := m.client, nums := m.nums }
  else if m.kind = 10 then { msg0 with kind := m.kind, client := m.client, by_ := m.by_, view := m.view, tag := m.tag, own := m.own }
  else if m.kind = 11 then { msg0 with kind := m.kind, client := m.client, own := m.own }
  else { msg0 with kind := m.kind, client := m.client }
def Msg.FieldsOk (m : Msg) : Prop :=
  if m.kind = 1 then m.sub.Ok
  else if m.kind = 2 then m.rep.Ok
  else if m.kind = 3 then m.view ≠ [] ∧ ViewOk 8 m.view
  else if m.kind = 4 ∨ m.kind = 6 then m.blob.Ok
  else if m.kind = 5 ∨ m.kind = 7 ∨ m.kind = 8 then NumsOk m.nums
  else if m.kind = 10 then In 0 7 m.by_ ∧ m.view ≠ [] ∧ ViewOk 8 m.view
  else m.kind = 9 ∨ m.kind = 11
def Msg.Ok (m : Msg) : Prop := m.FieldsOk ∧ In 0 7 m.client ∧ m.own_ = m
end Go.Aff.L10

namespace Go.Aff.L10
open Go.Proofs Go.Aff Go.Aff.L01 Classical
set_option maxRecDepth 20000
attribute [-go_sem] cellAt_new
attribute [-simp] List.length_flatMap
attribute [local go_sem] Tryz.underlying3 Tryz.underlying5 Tryz.underlying9 Tryz.underlying35 Tryz.underlying40 subPs_0 subAt_0 subPs_1 subAt_1 subPs_2 subAt_2 subPs_3 subAt_3 sizes_sub fits_sub Tryz.underlying34 sizes_pend fits_pend repPs_0 repAt_0 repPs_1 repAt_1 repPs_2 repAt_2 repPs_3 repAt_3 repPs_4 repAt_4 repPs_5 repAt_5 repPs_6 repAt_6 repPs_7 repAt_7 repPs_8 repAt_8 repPs_9 repAt_9 sizes_rep fits_rep Tryz.underlying37 blobPs_0 blobAt_0 blobPs_1 blobAt_1 blobPs_2 blobAt_2 sizes_blob fits_blob Tryz.underlying39 msgPs_0 msgAt_0 msgPs_1 msgAt_1 msgPs_2 msgAt_2 msgPs_3 msgAt_3 msgPs_4 msgAt_4 msgPs_5 msgAt_5 msgPs_6 msgAt_6 msgPs_7 msgAt_7 msgPs_8 msgAt_8 msgPs_9 msgAt_9 Tryz.underlying42
attribute [local go_sem] fits3 fits9 fits23 fits26 fits31 bin_sub_eql bin_pend_neq bin_blob_eql bin_dig23_eql
attribute [local simp] dig_ext

theorem within_c {n lo hi : Int} {σ : AST} {K : AV → AST → Prop} (hK : K (.bool (decide (In lo hi n))) σ) : TCalls Tryz.prog 61 [.int .i64 n, .int .i64 lo, .int .i64 hi] σ K := by
  refine tcalls_walk Tryz.f61 _ [.tmp 6] Tryz.func61 rfl rfl rfl mixed (Nat.le_of_ble_eq_true rfl) rfl fun hlen => ?_
  repeat' (first | (simp -dsimp only [↓reduceIte, go_sem]) | (refine guardV_split (fun h => ?_) (fun h => ?_) <;> (try rw [h]) <;> (try simp at h) <;> (try (exfalso; omega))))
  all_goals (first | (refine bool_endD hK ?_; simp_all [In] <;> fail) | (refine bool_endD hK ?_; simp [In]; omega))
theorem Within_c {n lo hi : Int} {σ : AST} {K : AV → AST → Prop} (hK : K (.bool (decide (In lo hi n))) σ) : TCalls Tryz.prog 49 [.int .i64 n, .int .i64 lo, .int .i64 hi] σ K := by
  refine tcalls_walk Tryz.f49 _ [.tmp 6] Tryz.func49 rfl rfl rfl mixed (Nat.le_of_ble_eq_true rfl) rfl fun hlen => ?_
  repeat' (first | (simp -dsimp only [↓reduceIte, go_sem]) | (refine guardV_split (fun h => ?_) (fun h => ?_) <;> (try rw [h]) <;> (try simp at h) <;> (try (exfalso; omega))))
  all_goals (first | (refine bool_endD hK ?_; simp_all [In] <;> fail) | (refine bool_endD hK ?_; simp [In]; omega))
theorem client_c {n : Int} {σ : AST} {K : AV → AST → Prop} (hK : K (.bool (decide (In 0 7 n))) σ) : TCalls Tryz.prog 93 [.int .i64 n] σ K := by
  refine tcalls_walk Tryz.f93 _ [.tmp 2] Tryz.func93 rfl rfl rfl mixed (Nat.le_of_ble_eq_true rfl) rfl fun hlen => ?_
  repeat' (first | (simp -dsimp only [↓reduceIte, go_sem]) | (refine within_c ?_))
  all_goals (exact hK)
theorem number_c {n : Int} {σ : AST} {K : AV → AST → Prop} (hK : K (.bool (decide (In 1 512 n))) σ) : TCalls Tryz.prog 149 [.int .i64 n] σ K := by
  refine tcalls_walk Tryz.f149 _ [.tmp 2] Tryz.func149 rfl rfl rfl mixed (Nat.le_of_ble_eq_true rfl) rfl fun hlen => ?_
  repeat' (first | (simp -dsimp only [↓reduceIte, go_sem]) | (refine within_c ?_))
  all_goals (exact hK)
theorem kind_c {n : Int} {σ : AST} {K : AV → AST → Prop} (hK : K (.bool (decide (In 1 2 n))) σ) : TCalls Tryz.prog 150 [.int .i64 n] σ K := by
  refine tcalls_walk Tryz.f150 _ [.tmp 2] Tryz.func150 rfl rfl rfl mixed (Nat.le_of_ble_eq_true rfl) rfl fun hlen => ?_
  repeat' (first | (simp -dsimp only [↓reduceIte, go_sem]) | (refine guardV_split (fun h => ?_) (fun h => ?_) <;> (try rw [h]) <;> (try simp at h) <;> (try (exfalso; omega))))
  all_goals (first | (refine bool_endD hK ?_; simp_all [In] <;> fail) | (refine bool_endD hK ?_; simp [In]; omega))
theorem histRight_c {h : List UInt8} {k : Int} {σ : AST} {K : AV → AST → Prop} (hK : K (.bool (decide (ViewOk k h))) σ) : TCalls Tryz.prog 151 [.str h, .int .i64 k] σ K := by
  refine tcalls_walk Tryz.f151 _ [.tmp 4] Tryz.func151 rfl rfl rfl mixed (Nat.le_of_ble_eq_true rfl) rfl fun hlen => ?_
  have hll : h.length ≤ 9223372036854775807 := hlen (.str h) (by simp)
  simp -dsimp only [↓reduceIte, go_sem]
  refine arr_intro fun _ => ?_
  simp -dsimp only [↓reduceIte, go_sem]
  refine awp_rounds (fun (i : Nat) τ s => s = σ ∧ i ≤ h.length ∧ (∀ (j : Nat) b, j < i → h[j]? = some b → (b.toNat : Int) < k) ∧ τ 0 = .str h ∧ τ 1 = .int .i64 k ∧ τ 7 = .int .i64 h.length ∧ τ 8 = .int .i64 i) (fun i => h.length - i) 0 ?_ ?_
  · refine ⟨rfl, by omega, fun j y h => by omega, ?_, ?_, ?_, ?_⟩ <;> (try simp only [go_sem]) <;> rfl
  · rintro i τ s ⟨rfl, hi, hall, t0, t1, t7, t8⟩
    simp -dsimp only [↓reduceIte, go_sem, t0, t1, t7, t8]
    refine boolW_split (fun hb => ?_) (fun hb => ?_)
    · have hb : i < h.length := by simp at hb; omega
      obtain ⟨y, hy, hm⟩ := get_of_lt hb
      have hy8 : (y.toNat : Int) < 256 := by have := y.toNat_lt; omega
      repeat' (first | (simp -dsimp only [↓reduceIte, go_sem, t0, t1, t7, t8]) | (rw [wrap_i64 (by omega) (by omega)]) | (refine guardV_split (fun h => ?_) (fun h => ?_) <;> (try rw [h]) <;> (try simp at h) <;> (try (exfalso; omega))) | (refine nth_get hy ?_))
      · exact bool_end hK (by
          rw [eq_comm, decide_eq_false_iff_not]
          intro hv; have := hv.1 y hm; omega)
      · refine later_intro ⟨i + 1, by omega, rfl, by omega, ?_, ?_, ?_, ?_, ?_⟩ <;> (try simp only [go_sem, t0, t1, t7, t8]) <;> (try rfl)
        intro j b hj hb'
        by_cases hji : j < i
        · exact hall j b hji hb'
        · obtain rfl : j = i := by omega
          rw [hy] at hb'; cases hb'; omega
    · have hb : i = h.length := by simp at hb; omega
      have ha : ∀ b ∈ h, (b.toNat : Int) < k := fun b hb2 => by
        obtain ⟨j, hj⟩ := List.mem_iff_getElem?.1 hb2
        exact hall j b (by have := (List.getElem?_eq_some_iff.1 hj).1; omega) hj
      repeat' (first | (simp -dsimp only [↓reduceIte, go_sem, t0, t1, t7, t8]) | (refine arr_intro fun _ => ?_) | (refine guardV_split (fun h => ?_) (fun h => ?_) <;> (try rw [h]) <;> (try simp at h) <;> (try (exfalso; omega))))
      all_goals exact bool_end hK (by rw [Bool.eq_iff_iff]; simp [ViewOk]; first | (intros; omega) | (constructor <;> intros <;> simp_all <;> omega) | (simp_all; omega))
theorem view_c {h : List UInt8} {σ : AST} {K : AV → AST → Prop} (hK : K (.bool (decide (ViewOk 8 h))) σ) : TCalls Tryz.prog 129 [.str h] σ K := by
  refine tcalls_walk Tryz.f129 _ [.tmp 2] Tryz.func129 rfl rfl rfl mixed (Nat.le_of_ble_eq_true rfl) rfl fun hlen => ?_
  repeat' (first | (simp -dsimp only [↓reduceIte, go_sem]) | (refine histRight_c ?_))
  exact hK
theorem submit_c {x : Sub} {σ : AST} {K : AV → AST → Prop} (hK : K (.bool (decide x.Ok)) σ) : TCalls Tryz.prog 127 [subV x] σ K := by
  refine TCalls.drop ?_
  refine tcalls_walk Tryz.f127 _ [.tmp 2] Tryz.func127 rfl rfl rfl mixed (Nat.le_of_ble_eq_true rfl) rfl fun hlen => ?_
  repeat' (first | (simp -dsimp only [↓reduceIte, go_sem]) | (refine arr_intro fun _ => ?_) | (refine guardV_split (fun h => ?_) (fun h => ?_) <;> (try rw [h]) <;> (try simp at h) <;> (try (exfalso; omega))) | (refine number_c ?_) | (refine kind_c ?_) | (refine client_c ?_))
  all_goals (first | (refine bool_endDX (Ext.app _ _) hK ?_; simp_all [Sub.Ok] <;> fail) | (refine bool_endDX (Ext.app _ _) hK ?_; simp_all [Sub.Ok]; omega))
theorem blob_c {x : Blob} {σ : AST} {K : AV → AST → Prop} (hK : K (.bool (decide x.Ok)) σ) : TCalls Tryz.prog 130 [blobV x] σ K := by
  refine TCalls.drop ?_
  refine tcalls_walk Tryz.f130 _ [.tmp 2] Tryz.func130 rfl rfl rfl mixed (Nat.le_of_ble_eq_true rfl) rfl fun hlen => ?_
  repeat' (first | (simp -dsimp only [↓reduceIte, go_sem]) | (refine arr_intro fun _ => ?_) | (refine guardV_split (fun h => ?_) (fun h => ?_) <;> (try rw [h]) <;> (try simp at h) <;> (try (exfalso; omega))) | (refine client_c ?_) | (refine within_c ?_))
  all_goals (first | (refine bool_endDX (Ext.app _ _) hK ?_; simp_all [Blob.Ok] <;> fail) | (refine bool_endDX (Ext.app _ _) hK ?_; simp_all [Blob.Ok]; omega))

theorem ext_to {α : Type} {a b : List α} (h : a.length = b.length) (hall : ∀ (j : Nat) x y, j < a.length → a[j]? = some x → b[j]? = some y → x = y) : a = b := by
  apply List.ext_getElem?
  intro j
  by_cases hj : j < a.length
  · obtain ⟨x, hx⟩ := get_lt hj
    obtain ⟨y, hy⟩ := get_lt (l := b) (i := j) (by omega)
    rw [hx, hy, hall j x y hj hx hy]
  · rw [List.getElem?_eq_none (by omega), List.getElem?_eq_none (by omega)]
theorem all_next {α : Type} {a b : List α} {i : Nat} {x y : α} (hall : ∀ (j : Nat) x y, j < i → a[j]? = some x → b[j]? = some y → x = y) (hx : a[i]? = some x) (hy : b[i]? = some y) (h : x = y) : ∀ (j : Nat) x y, j < i + 1 → a[j]? = some x → b[j]? = some y → x = y := by
  intro j u v hj hu hv
  by_cases hji : j < i
  · exact hall j u v hji hu hv
  · obtain rfl : j = i := by omega
    rw [hx] at hu; rw [hy] at hv; cases hu; cases hv; exact h
theorem ne_at {α : Type} {a b : List α} {i : Nat} {x y : α} (hx : a[i]? = some x) (hy : b[i]? = some y) (h : ¬ x = y) : ¬ a = b := by
  rintro rfl; rw [hx] at hy; cases hy; exact h rfl

theorem equalInts_c {a b : List Int} {ta tb : Tk} {σ : AST} {K : AV → AST → Prop} (hK : K (.bool (decide (a = b))) σ) : TCalls Tryz.prog 132 [.slice ta (a.map (AV.int .i64)), .slice tb (b.map (AV.int .i64))] σ K := by
  refine tcalls_walk Tryz.f132 _ [.tmp 4] Tryz.func132 rfl rfl rfl mixed (Nat.le_of_ble_eq_true rfl) rfl fun hlen => ?_
  have hla : a.length ≤ 9223372036854775807 := by simpa [maxL, lenOk] using hlen _ (List.mem_cons_self ..)
  repeat' (first | (simp -dsimp only [↓reduceIte, go_sem]) | (refine arr_intro fun _ => ?_) | (refine guardV_split (fun h => ?_) (fun h => ?_) <;> (try rw [h]) <;> (try simp at h) <;> (try (exfalso; omega))))
  · refine bool_endD hK (by simp; rintro rfl; omega)
  · have hab : a.length = b.length := by omega
    refine awp_rounds (fun (i : Nat) τ s => s = σ ∧ i ≤ a.length ∧ (∀ (j : Nat) x y, j < i → a[j]? = some x → b[j]? = some y → x = y) ∧ τ 0 = .slice ta (a.map (AV.int .i64)) ∧ τ 1 = .slice tb (b.map (AV.int .i64)) ∧ τ 12 = .int .i64 a.length ∧ τ 13 = .int .i64 i) (fun i => a.length - i) 0 ?_ ?_
    · refine ⟨rfl, by omega, fun j x y h => by omega, ?_, ?_, ?_, ?_⟩ <;> (try simp only [go_sem]) <;> rfl
    · rintro i τ s ⟨rfl, hi, hall, t0, t1, t12, t13⟩
      simp -dsimp only [↓reduceIte, go_sem, t0, t1, t12, t13]
      refine boolW_split (fun hb => ?_) (fun hb => ?_)
      · have hb : i < a.length := by simp at hb; omega
        obtain ⟨x, hax⟩ := get_lt hb
        obtain ⟨y, hby⟩ := get_lt (l := b) (i := i) (by omega)
        repeat' (first | (simp -dsimp only [↓reduceIte, go_sem, t0, t1, t12, t13]) | (rw [wrap_i64 (by omega) (by omega)]) | (refine guardV_split (fun h => ?_) (fun h => ?_) <;> (try rw [h]) <;> (try simp at h) <;> (try (exfalso; omega))) | (with_reducible refine awp_drawS (id := 6) [0, 1, 2, 3, 4, 5, 6, 7, 8] (by kernel_rfl) ?_) | (refine nth_get hax ?_) | (refine nth_get hby ?_))
        · exact bool_endD hK (by simp; exact ne_at hax hby (by assumption))
        · refine later_intro ⟨i + 1, by omega, rfl, by omega, all_next hall hax hby (by assumption), ?_, ?_, ?_, ?_⟩ <;> (try simp only [go_sem, t0, t1, t12, t13]) <;> rfl
      · have hb : i = a.length := by simp at hb; omega
        subst hb
        repeat' (simp -dsimp only [↓reduceIte, go_sem, t0, t1, t12, t13])
        exact bool_endD hK (by simp; exact ext_to hab hall)
theorem equalPends_c {a b : List Pend} {ta tb : Tk} {σ : AST} {K : AV → AST → Prop} (hK : K (.bool (decide (a = b))) σ) : TCalls Tryz.prog 152 [.slice ta (a.map pendV), .slice tb (b.map pendV)] σ K := by
  refine tcalls_walk Tryz.f152 _ [.tmp 4] Tryz.func152 rfl rfl rfl mixed (Nat.le_of_ble_eq_true rfl) rfl fun hlen => ?_
  have hla : a.length ≤ 9223372036854775807 := by simpa [maxL, lenOk] using hlen _ (List.mem_cons_self ..)
  repeat' (first | (simp -dsimp only [↓reduceIte, go_sem]) | (refine arr_intro fun _ => ?_) | (refine guardV_split (fun h => ?_) (fun h => ?_) <;> (try rw [h]) <;> (try simp at h) <;> (try (exfalso; omega))))
  · refine bool_endD hK (by simp; rintro rfl; omega)
  · have hab : a.length = b.length := by omega
    refine awp_rounds (fun (i : Nat) τ s => s = σ ∧ i ≤ a.length ∧ (∀ (j : Nat) x y, j < i → a[j]? = some x → b[j]? = some y → x = y) ∧ τ 0 = .slice ta (a.map pendV) ∧ τ 1 = .slice tb (b.map pendV) ∧ τ 12 = .int .i64 a.length ∧ τ 13 = .int .i64 i) (fun i => a.length - i) 0 ?_ ?_
    · refine ⟨rfl, by omega, fun j x y h => by omega, ?_, ?_, ?_, ?_⟩ <;> (try simp only [go_sem]) <;> rfl
    · rintro i τ s ⟨rfl, hi, hall, t0, t1, t12, t13⟩
      simp -dsimp only [↓reduceIte, go_sem, t0, t1, t12, t13]
      refine boolW_split (fun hb => ?_) (fun hb => ?_)
      · have hb : i < a.length := by simp at hb; omega
        obtain ⟨x, hax⟩ := get_lt hb
        obtain ⟨y, hby⟩ := get_lt (l := b) (i := i) (by omega)
        repeat' (first | (simp -dsimp only [↓reduceIte, go_sem, t0, t1, t12, t13]) | (rw [wrap_i64 (by omega) (by omega)]) | (refine guardV_split (fun h => ?_) (fun h => ?_) <;> (try rw [h]) <;> (try simp at h) <;> (try (exfalso; omega))) | (with_reducible refine awp_drawS (id := 6) [0, 1, 2, 3, 4, 5, 6, 7, 8] (by kernel_rfl) ?_) | (refine nth_get hax ?_) | (refine nth_get hby ?_))
        · exact bool_endD hK (by simp; exact ne_at hax hby (by assumption))
        · refine later_intro ⟨i + 1, by omega, rfl, by omega, all_next hall hax hby (by assumption), ?_, ?_, ?_, ?_⟩ <;> (try simp only [go_sem, t0, t1, t12, t13]) <;> rfl
      · have hb : i = a.length := by simp at hb; omega
        subst hb
        repeat' (simp -dsimp only [↓reduceIte, go_sem, t0, t1, t12, t13])
        exact bool_endD hK (by simp; exact ext_to hab hall)
theorem sameReply_c {a b : Rep} {ta tb : Tk} {σ : AST} {K : AV → AST → Prop} (hK : K (.bool (decide (a = b))) σ) : TCalls Tryz.prog 133 [repV ta a, repV tb b] σ K := by
  refine TCalls.drop ?_
  refine tcalls_walk Tryz.f133 _ [.tmp 4] Tryz.func133 rfl rfl rfl mixed (Nat.le_of_ble_eq_true rfl) rfl fun hlen => ?_
  repeat' (first | (simp -dsimp only [↓reduceIte, go_sem]) | (refine guardV_split (fun h => ?_) (fun h => ?_) <;> (try rw [h]) <;> (try simp at h) <;> (try (exfalso; omega))) | (refine equalPends_c ?_))
  all_goals ((refine bool_endDX (Ext.app _ _) hK ?_; simp_all [Rep.iff] <;> fail))
theorem same_c {a b : Msg} {ta ua tb ub : Tk} {σ : AST} {K : AV → AST → Prop} (hK : K (.bool (decide (a = b))) σ) : TCalls Tryz.prog 94 [msgV ta ua a, msgV tb ub b] σ K := by
  refine TCalls.drop ?_
  refine tcalls_walk Tryz.f94 _ [.tmp 4] Tryz.func94 rfl rfl rfl mixed (Nat.le_of_ble_eq_true rfl) rfl fun hlen => ?_
  repeat' (first | (simp -dsimp only [↓reduceIte, go_sem]) | (refine guardV_split (fun h => ?_) (fun h => ?_) <;> (try rw [h]) <;> (try simp at h) <;> (try (exfalso; omega))) | (refine equalInts_c ?_) | (refine sameReply_c ?_))
  all_goals ((refine bool_endDX (Ext.app _ _) hK ?_; simp_all [Msg.iff] <;> fail))
end Go.Aff.L10

