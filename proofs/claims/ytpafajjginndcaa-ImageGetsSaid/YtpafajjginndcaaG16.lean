import Derived.Test.YtpafajjginndcaaG13
import Derived.Test.YtpafajjginndcaaG15

/- Layer 1, walked: lists that are read. -/
namespace Go.Aff.L01
open Go.Proofs Go.Aff
set_option linter.unusedVariables false
set_option linter.unusedSimpArgs false
attribute [local go_sem] Try.underlying3 Try.underlying4 Try.underlying5 Try.underlying9 Try.underlying43 Try.underlying75 Try.underlying23 Try.underlying44 Try.underlying29 fits3 fits9

/-- Items one behind the other, up to the bracket. -/
def readL {α : Type} (one : Nat → α × Int × Int) (s : List UInt8) (p : Nat) (acc : List α) : List α × Int × Int :=
  if p = s.length then ([], 0, 5) else
  if bAt s p = 41 then (acc, ((p + 1 : Nat) : Int), 0) else
  if 512 ≤ acc.length then ([], 0, 4) else
  if (one p).2.2 ≠ 0 then ([], 0, (one p).2.2) else
  if h : (p : Int) < (one p).2.1 ∧ (one p).2.1 ≤ s.length then readL one s (one p).2.1.toNat (acc ++ [(one p).1]) else ([], 0, 5)
termination_by s.length - p
decreasing_by omega

/-- What reading a list comes to. -/
def readR {α : Type} (one : Nat → α × Int × Int) (s : List UInt8) (i : Int) : List α × Int × Int :=
  if i < 0 ∨ (s.length : Int) < i then ([], 0, 3) else
  if i.toNat = s.length then ([], 0, 5) else
  if bAt s i.toNat ≠ 40 then ([], 0, 6) else readL one s (i.toNat + 1) []
def tupL {α : Type} (f : α → AV) (x : List α × Int × Int) : AV := .tuple [if x.1 = [] then .slice .full [] else .slice .none (x.1.map f), .int .i64 x.2.1, .int .i64 x.2.2]
def tk' {α : Type} (l : List α) : Tk := if l = [] then .full else .none

theorem strip_own {k : Nat} {xs : List AV} : (AV.slice (.own k) xs).strip = .slice .none (AV.strips xs) := by simp [AV.strip]
theorem strips_map {α : Type} {f : α → AV} (h : ∀ x, (f x).strip = f x) : ∀ {l : List α}, AV.strips (l.map f) = l.map f
  | [] => rfl
  | x :: r => by simp [AV.strips, h, strips_map h (l := r)]
theorem noRefs_map {α : Type} {f : α → AV} (h : ∀ x, (f x).noRef = true) : ∀ {l : List α}, AV.noRefs (l.map f) = true
  | [] => rfl
  | x :: r => by simp [AV.noRefs, h, noRefs_map h (l := r)]

theorem numR_nat {s : List UInt8} {q : Nat} (h : q ≤ s.length) : numR s q = numP s q := by
  rw [numR, if_neg (by omega)]; simp
theorem textR_nat {s : List UInt8} {q : Nat} (h : q ≤ s.length) : textR s q = textP s q := by
  rw [textR, if_neg (by omega)]; simp
theorem numP_prog {s : List UInt8} {q : Nat} (h : q ≤ s.length) : (numP s q).2.2 = 0 → (q : Int) < (numP s q).2.1 ∧ (numP s q).2.1 ≤ s.length := by
  have hl : lowB s q = true → q < s.length := fun h => by simp [lowB] at h; exact h.1
  unfold numP
  generalize hw : lowB s q = low at *
  generalize hq : (if low = true then q + 1 else q) = r
  have hr : q ≤ r ∧ r ≤ s.length := by rw [← hq]; split; (have := hl (by assumption); omega); omega
  have hel := dend_le hr.2
  have heq : r ≤ dend s r := by unfold dend; omega
  generalize (if low = true then 9223372036854775808 else 9223372036854775807) = most
  unfold numT
  split
  · intro h0; dsimp only at h0; contradiction
  · split
    · intro h0; cases h0
    · split
      · intro h0; cases h0
      · intro _
        rename_i h1 _ _ _
        have := shape_ok (by simpa using h1) hel
        dsimp only; omega
theorem textP_prog {s : List UInt8} {q : Nat} (h : q ≤ s.length) : (textP s q).2.2 = 0 → (q : Int) < (textP s q).2.1 ∧ (textP s q).2.1 ≤ s.length := by
  have hel := dend_le h
  have heq : q ≤ dend s q := by unfold dend; omega
  unfold textP
  split
  · intro h0; dsimp only at h0; contradiction
  · split
    · intro h0; cases h0
    · split
      · intro h0; cases h0
      · intro _
        dsimp only; omega
theorem readNumber_n {s : List UInt8} {q : Nat} (h : q ≤ s.length) (hs : s.length ≤ 9223372036854775807) {σ : AST} {K : AV → AST → Prop} (hK : K (tup3 (numP s q)) σ) : TCalls Try.prog 30 [.str s, .int .i64 q] σ K :=
  readNumber_c (by omega) (by omega) (by rw [numR_nat h]; exact hK)
theorem readText_n {s : List UInt8} {q : Nat} (h : q ≤ s.length) (hs : s.length ≤ 9223372036854775807) {σ : AST} {K : AV → AST → Prop} (hK : K (tupT (textP s q)) σ) : TCalls Try.prog 58 [.str s, .int .i64 q] σ K :=
  readText_c (by omega) (by omega) (by rw [textR_nat h]; exact hK)

theorem readInts_c {s : List UInt8} {i : Int} (hi0 : -9223372036854775808 ≤ i) (hi1 : i ≤ 9223372036854775807) {σ : AST} {K : AV → AST → Prop}
    (hK : K (tupL (AV.int .i64) (readR (numP s) s i)) σ) : TCalls Try.prog 56 [.str s, .int .i64 i, .fn (.func 30) [] []] σ K := by
  refine TCalls.drop ?_
  refine tcalls_walk Try.f56 _ [.tmp 6, .tmp 7, .tmp 8] Try.func56 rfl rfl rfl mixed (Nat.le_of_ble_eq_true rfl) rfl fun hlen => ?_
  have hs : s.length ≤ 9223372036854775807 := hlen (.str s) (by simp)
  have leaf : ∀ x, ((AV.int .i64) x).strip = (AV.int .i64) x ∧ ((AV.int .i64) x).noRef = true := fun x => ⟨by simp [AV.strip], rfl⟩
  have nil : ∀ (a b : Int) (s' : AST), Ext σ s' → K (tupL (AV.int .i64) ([], a, b)) σ → Ext σ s' ∧ (AV.tuple [.slice .full [], .int .i64 a, .int .i64 b]).noRef = true ∧ K (AV.tuple [.slice .full [], .int .i64 a, .int .i64 b]).strip σ := fun a b s' hx h => ⟨hx, rfl, h⟩
  refine awp_seq_k fun KA hKA => ?_
  simp -dsimp only [↓reduceIte, go_sem]
  refine hKA _ _ (awp_seq_k fun KB hKB => ?_)
  have go : ∀ τ : Env, τ 0 = .str s → τ 1 = .int .i64 i → τ 2 = .fn (.func 30) [] [] → ¬ (i < 0 ∨ (s.length : Int) < i) → i.toNat ≠ s.length → bAt s i.toNat = 40 → KB τ σ := by
    intro τ t0 t1 t2 hok hne h40
    rw [readR, if_neg hok, if_neg hne, if_neg (by simp [h40])] at hK
    have hi : (i.toNat : Int) = i := by omega
    generalize hp : i.toNat = p at hi hK hne
    rw [← hi] at t1
    refine hKB _ _ ?_
    simp -dsimp only [↓reduceIte, go_sem, t0, t1, t2]
    rw [show IntKind.i64.wrap ((p : Int) + 1) = ((p + 1 : Nat) : Int) by rw [wrap_i64 (by omega) (by omega)]; omega]
    refine awp_rounds (fun (x : Nat × List Int) τ s' => x.1 ≤ s.length ∧ x.2.length ≤ 512 ∧ Ext σ s' ∧ τ 0 = .str s ∧ τ 1 = .int .i64 x.1 ∧ τ 2 = .fn (.func 30) [] [] ∧
      K (tupL (AV.int .i64) (readL (numP s) s x.1 x.2)) σ ∧ ∃ tk, (x.2 = [] ∧ tk = .full ∨ x.2 ≠ [] ∧ ∃ k, tk = .own k ∧ σ.toks.length ≤ k) ∧ canApp s' tk x.2.length 1 ∧ τ 9 = .slice tk (x.2.map (AV.int .i64))) (fun x => s.length - x.1) (p + 1, []) ?_ ?_
    · refine ⟨by dsimp only; omega, by simp, Ext.refl _, ?_, ?_, ?_, hK, .full, .inl ⟨rfl, rfl⟩, trivial, ?_⟩ <;> simp only [go_sem, t0, t1, t2] <;> rfl
    · rintro ⟨q, acc⟩ τ s' ⟨hq, hacc, hx, t0, t1, t2, hK, tk, htk, hcan, t9⟩
      dsimp only at hq hacc t1 hK htk hcan t9
      have htn : tkNew σ tk := by
        rcases htk with ⟨_, h⟩ | ⟨_, h⟩
        · exact .inl h
        · exact .inr h
      rw [readL] at hK
      simp -dsimp only [↓reduceIte, go_sem, t0, t1, t2, t9]
      refine arr_intro fun _ => ?_
      simp -dsimp only [↓reduceIte, go_sem, t0, t1, t2, t9]
      refine boolW_split (fun h1 => ?_) (fun h1 => ?_)
      · have h1 : q = s.length := by simp at h1; omega
        rw [if_pos h1] at hK
        simp -dsimp only [↓reduceIte, go_sem, t0, t1, t2, t9]
        exact nil _ _ _ hx hK
      · have h1 : ¬ q = s.length := by simp at h1; omega
        rw [if_neg h1] at hK
        obtain ⟨b, hb⟩ := get_lt (l := s) (i := q) (by omega)
        rw [bAt_of hb] at hK
        simp -dsimp only [↓reduceIte, go_sem, t0, t1, t2, t9]
        refine nth_get hb ?_
        simp -dsimp only [↓reduceIte, go_sem, t0, t1, t2, t9]
        refine boolW_split (fun h2 => ?_) (fun h2 => ?_)
        · have h2 : b.toNat = 41 := by simp at h2; omega
          rw [if_pos h2] at hK
          simp -dsimp only [↓reduceIte, go_sem, t0, t1, t2, t9]
          rw [show IntKind.i64.wrap ((q : Int) + 1) = ((q + 1 : Nat) : Int) by rw [wrap_i64 (by omega) (by omega)]; omega]
          refine ⟨hx, ?_, ?_⟩
          · simp only [AV.noRef, AV.noRefs, noRefs_map (fun x => (leaf x).2), Bool.and_true]
          · simp only [AV.strip, AV.strips]
            rcases htk with ⟨rfl, rfl⟩ | ⟨hn, k, rfl, _⟩
            · exact hK
            · rw [strip_own, strips_map (fun x => (leaf x).1)]
              rw [tupL, if_neg hn] at hK
              exact hK
        · have h2 : ¬ b.toNat = 41 := by simp at h2; omega
          rw [if_neg h2] at hK
          simp -dsimp only [↓reduceIte, go_sem, t0, t1, t2, t9]
          refine arr_intro fun _ => ?_
          simp only [List.length_map]
          simp -dsimp only [↓reduceIte, go_sem, t0, t1, t2, t9]
          refine boolW_split (fun h3 => ?_) (fun h3 => ?_)
          · have h3 : 512 ≤ acc.length := by simp at h3; omega
            rw [if_pos h3] at hK
            simp -dsimp only [↓reduceIte, go_sem, t0, t1, t2, t9]
            exact nil _ _ _ hx hK
          · have h3 : ¬ 512 ≤ acc.length := by simp at h3; omega
            rw [if_neg h3] at hK
            simp -dsimp only [↓reduceIte, go_sem, t0, t1, t2, t9]
            refine readNumber_n (by omega) (by omega) ?_
            have hpr := numP_prog (s := s) (q := q) (by omega)
            generalize numP s q = res at hK hpr
            obtain ⟨x, nx, e⟩ := res
            dsimp only at hK hpr
            simp only [tup3]
            simp -dsimp only [↓reduceIte, go_sem, t0, t1, t2, t9]
            refine boolW_split (fun h4 => ?_) (fun h4 => ?_)
            · have h4 : e ≠ 0 := by simpa using h4
              rw [if_pos h4] at hK
              simp -dsimp only [↓reduceIte, go_sem, t0, t1, t2, t9]
              exact nil _ _ _ hx hK
            · have h4 : e = 0 := by simpa using h4
              obtain ⟨hp1, hp2⟩ := hpr h4
              rw [if_neg (by simp [h4]), dif_pos ⟨hp1, hp2⟩] at hK
              simp -dsimp only [↓reduceIte, go_sem, t0, t1, t2, t9]
              refine build_slice E25 rfl (by decide) ?_ ?_
              · intro v hv
                simp at hv; subst hv
                exact ⟨by simp only [go_sem], rfl⟩
              simp -dsimp only [↓reduceIte, go_sem, t0, t1, t2, t9]
              refine append_slice E25 (by rfl) (by simpa using hcan) (by intro v hv; simp at hv; subst hv; simp only [go_sem]) (by intro v hv; simp at hv; obtain ⟨y, _, rfl⟩ := hv; simp only [go_sem]) (by simp; omega) (by simp [maxL]; omega) ?_
              simp -dsimp only [↓reduceIte, go_sem, t0, t1, t2, t9]
              refine later_intro ⟨(nx.toNat, acc ++ [x]), by dsimp only; omega, ?_⟩
              refine ⟨by dsimp only; omega, by simp; omega, hx.grow htn, ?_, ?_, ?_, hK, growT s' tk, ?_, ?_, ?_⟩ <;> (try simp only [go_sem, t0, t1, t2, t9])
              · rw [show ((nx.toNat : Nat) : Int) = nx by omega]
              · refine .inr ⟨by simp, ?_⟩
                rcases htn.grow hx with h | h
                · rcases htk with ⟨_, rfl⟩ | ⟨_, k, rfl, _⟩ <;> simp [growT] at h
                · exact h
              · have := canApp_grow (n := acc.length + 1) (es := 1) hcan
                simpa using this
              · simp
  have bad : i < 0 ∨ (s.length : Int) < i → K (tupL (AV.int .i64) ([], 0, 3)) σ := fun h => by
    rw [readR, if_pos h] at hK; exact hK
  simp -dsimp only [↓reduceIte, go_sem]
  refine guardV_split (fun h1 => ?_) (fun h1 => ?_) <;> (try rw [h1])
  · have h1 : ¬ i < 0 := by simpa using h1
    simp -dsimp only [↓reduceIte, go_sem]
    refine arr_intro fun _ => ?_
    simp -dsimp only [↓reduceIte, go_sem]
    refine boolW_split (fun h2 => ?_) (fun h2 => ?_)
    · have h2 : (s.length : Int) < i := by simpa using h2
      simp -dsimp only [↓reduceIte, go_sem]
      exact nil _ _ _ (Ext.refl _) (bad (.inr h2))
    · have h2 : ¬ (s.length : Int) < i := by simpa using h2
      have hok : ¬ (i < 0 ∨ (s.length : Int) < i) := by omega
      have hi : (i.toNat : Int) = i := by omega
      simp -dsimp only [↓reduceIte, go_sem]
      refine arr_intro fun _ => ?_
      simp -dsimp only [↓reduceIte, go_sem]
      refine boolW_split (fun h3 => ?_) (fun h3 => ?_)
      · have h3 : i.toNat = s.length := by simp at h3; omega
        rw [readR, if_neg hok, if_pos h3] at hK
        simp -dsimp only [↓reduceIte, go_sem]
        exact nil _ _ _ (Ext.refl _) hK
      · have h3 : i.toNat ≠ s.length := by simp at h3; omega
        obtain ⟨b, hb⟩ := get_lt (l := s) (i := i.toNat) (by omega)
        have hbb := bAt_of hb
        simp -dsimp only [↓reduceIte, go_sem]
        rw [← hi]
        refine nth_get hb ?_
        simp -dsimp only [↓reduceIte, go_sem]
        refine boolW_split (fun h4 => ?_) (fun h4 => ?_)
        · have h4 : bAt s i.toNat ≠ 40 := by rw [hbb]; simp at h4; omega
          rw [readR, if_neg hok, if_neg h3, if_pos h4] at hK
          simp -dsimp only [↓reduceIte, go_sem]
          exact nil _ _ _ (Ext.refl _) hK
        · have h4 : bAt s i.toNat = 40 := by rw [hbb]; simp at h4; omega
          simp -dsimp only [↓reduceIte, go_sem]
          refine go _ ?_ ?_ ?_ hok h3 h4 <;> simp only [go_sem, hi]
  · have h1 : i < 0 := by simpa using h1
    simp -dsimp only [↓reduceIte, go_sem]
    exact nil _ _ _ (Ext.refl _) (bad (.inl h1))

theorem readStrs_c {s : List UInt8} {i : Int} (hi0 : -9223372036854775808 ≤ i) (hi1 : i ≤ 9223372036854775807) {σ : AST} {K : AV → AST → Prop}
    (hK : K (tupL AV.str (readR (textP s) s i)) σ) : TCalls Try.prog 57 [.str s, .int .i64 i, .fn (.func 58) [] []] σ K := by
  refine TCalls.drop ?_
  refine tcalls_walk Try.f57 _ [.tmp 6, .tmp 7, .tmp 8] Try.func57 rfl rfl rfl mixed (Nat.le_of_ble_eq_true rfl) rfl fun hlen => ?_
  have hs : s.length ≤ 9223372036854775807 := hlen (.str s) (by simp)
  have leaf : ∀ x, (AV.str x).strip = AV.str x ∧ (AV.str x).noRef = true := fun x => ⟨by simp [AV.strip], rfl⟩
  have nil : ∀ (a b : Int) (s' : AST), Ext σ s' → K (tupL AV.str ([], a, b)) σ → Ext σ s' ∧ (AV.tuple [.slice .full [], .int .i64 a, .int .i64 b]).noRef = true ∧ K (AV.tuple [.slice .full [], .int .i64 a, .int .i64 b]).strip σ := fun a b s' hx h => ⟨hx, rfl, h⟩
  refine awp_seq_k fun KA hKA => ?_
  simp -dsimp only [↓reduceIte, go_sem]
  refine hKA _ _ (awp_seq_k fun KB hKB => ?_)
  have go : ∀ τ : Env, τ 0 = .str s → τ 1 = .int .i64 i → τ 2 = .fn (.func 58) [] [] → ¬ (i < 0 ∨ (s.length : Int) < i) → i.toNat ≠ s.length → bAt s i.toNat = 40 → KB τ σ := by
    intro τ t0 t1 t2 hok hne h40
    rw [readR, if_neg hok, if_neg hne, if_neg (by simp [h40])] at hK
    have hi : (i.toNat : Int) = i := by omega
    generalize hp : i.toNat = p at hi hK hne
    rw [← hi] at t1
    refine hKB _ _ ?_
    simp -dsimp only [↓reduceIte, go_sem, t0, t1, t2]
    rw [show IntKind.i64.wrap ((p : Int) + 1) = ((p + 1 : Nat) : Int) by rw [wrap_i64 (by omega) (by omega)]; omega]
    refine awp_rounds (fun (x : Nat × List (List UInt8)) τ s' => x.1 ≤ s.length ∧ x.2.length ≤ 512 ∧ Ext σ s' ∧ τ 0 = .str s ∧ τ 1 = .int .i64 x.1 ∧ τ 2 = .fn (.func 58) [] [] ∧
      K (tupL AV.str (readL (textP s) s x.1 x.2)) σ ∧ ∃ tk, (x.2 = [] ∧ tk = .full ∨ x.2 ≠ [] ∧ ∃ k, tk = .own k ∧ σ.toks.length ≤ k) ∧ canApp s' tk x.2.length 1 ∧ τ 9 = .slice tk (x.2.map AV.str)) (fun x => s.length - x.1) (p + 1, []) ?_ ?_
    · refine ⟨by dsimp only; omega, by simp, Ext.refl _, ?_, ?_, ?_, hK, .full, .inl ⟨rfl, rfl⟩, trivial, ?_⟩ <;> simp only [go_sem, t0, t1, t2] <;> rfl
    · rintro ⟨q, acc⟩ τ s' ⟨hq, hacc, hx, t0, t1, t2, hK, tk, htk, hcan, t9⟩
      dsimp only at hq hacc t1 hK htk hcan t9
      have htn : tkNew σ tk := by
        rcases htk with ⟨_, h⟩ | ⟨_, h⟩
        · exact .inl h
        · exact .inr h
      rw [readL] at hK
      simp -dsimp only [↓reduceIte, go_sem, t0, t1, t2, t9]
      refine arr_intro fun _ => ?_
      simp -dsimp only [↓reduceIte, go_sem, t0, t1, t2, t9]
      refine boolW_split (fun h1 => ?_) (fun h1 => ?_)
      · have h1 : q = s.length := by simp at h1; omega
        rw [if_pos h1] at hK
        simp -dsimp only [↓reduceIte, go_sem, t0, t1, t2, t9]
        exact nil _ _ _ hx hK
      · have h1 : ¬ q = s.length := by simp at h1; omega
        rw [if_neg h1] at hK
        obtain ⟨b, hb⟩ := get_lt (l := s) (i := q) (by omega)
        rw [bAt_of hb] at hK
        simp -dsimp only [↓reduceIte, go_sem, t0, t1, t2, t9]
        refine nth_get hb ?_
        simp -dsimp only [↓reduceIte, go_sem, t0, t1, t2, t9]
        refine boolW_split (fun h2 => ?_) (fun h2 => ?_)
        · have h2 : b.toNat = 41 := by simp at h2; omega
          rw [if_pos h2] at hK
          simp -dsimp only [↓reduceIte, go_sem, t0, t1, t2, t9]
          rw [show IntKind.i64.wrap ((q : Int) + 1) = ((q + 1 : Nat) : Int) by rw [wrap_i64 (by omega) (by omega)]; omega]
          refine ⟨hx, ?_, ?_⟩
          · simp only [AV.noRef, AV.noRefs, noRefs_map (fun x => (leaf x).2), Bool.and_true]
          · simp only [AV.strip, AV.strips]
            rcases htk with ⟨rfl, rfl⟩ | ⟨hn, k, rfl, _⟩
            · exact hK
            · rw [strip_own, strips_map (fun x => (leaf x).1)]
              rw [tupL, if_neg hn] at hK
              exact hK
        · have h2 : ¬ b.toNat = 41 := by simp at h2; omega
          rw [if_neg h2] at hK
          simp -dsimp only [↓reduceIte, go_sem, t0, t1, t2, t9]
          refine arr_intro fun _ => ?_
          simp only [List.length_map]
          simp -dsimp only [↓reduceIte, go_sem, t0, t1, t2, t9]
          refine boolW_split (fun h3 => ?_) (fun h3 => ?_)
          · have h3 : 512 ≤ acc.length := by simp at h3; omega
            rw [if_pos h3] at hK
            simp -dsimp only [↓reduceIte, go_sem, t0, t1, t2, t9]
            exact nil _ _ _ hx hK
          · have h3 : ¬ 512 ≤ acc.length := by simp at h3; omega
            rw [if_neg h3] at hK
            simp -dsimp only [↓reduceIte, go_sem, t0, t1, t2, t9]
            refine readText_n (by omega) (by omega) ?_
            have hpr := textP_prog (s := s) (q := q) (by omega)
            generalize textP s q = res at hK hpr
            obtain ⟨x, nx, e⟩ := res
            dsimp only at hK hpr
            simp only [tupT]
            simp -dsimp only [↓reduceIte, go_sem, t0, t1, t2, t9]
            refine boolW_split (fun h4 => ?_) (fun h4 => ?_)
            · have h4 : e ≠ 0 := by simpa using h4
              rw [if_pos h4] at hK
              simp -dsimp only [↓reduceIte, go_sem, t0, t1, t2, t9]
              exact nil _ _ _ hx hK
            · have h4 : e = 0 := by simpa using h4
              obtain ⟨hp1, hp2⟩ := hpr h4
              rw [if_neg (by simp [h4]), dif_pos ⟨hp1, hp2⟩] at hK
              simp -dsimp only [↓reduceIte, go_sem, t0, t1, t2, t9]
              refine build_slice E26 rfl (by decide) ?_ ?_
              · intro v hv
                simp at hv; subst hv
                exact ⟨by simp only [go_sem], rfl⟩
              simp -dsimp only [↓reduceIte, go_sem, t0, t1, t2, t9]
              refine append_slice E26 (by rfl) (by simpa using hcan) (by intro v hv; simp at hv; subst hv; simp only [go_sem]) (by intro v hv; simp at hv; obtain ⟨y, _, rfl⟩ := hv; simp only [go_sem]) (by simp; omega) (by simp [maxL]; omega) ?_
              simp -dsimp only [↓reduceIte, go_sem, t0, t1, t2, t9]
              refine later_intro ⟨(nx.toNat, acc ++ [x]), by dsimp only; omega, ?_⟩
              refine ⟨by dsimp only; omega, by simp; omega, hx.grow htn, ?_, ?_, ?_, hK, growT s' tk, ?_, ?_, ?_⟩ <;> (try simp only [go_sem, t0, t1, t2, t9])
              · rw [show ((nx.toNat : Nat) : Int) = nx by omega]
              · refine .inr ⟨by simp, ?_⟩
                rcases htn.grow hx with h | h
                · rcases htk with ⟨_, rfl⟩ | ⟨_, k, rfl, _⟩ <;> simp [growT] at h
                · exact h
              · have := canApp_grow (n := acc.length + 1) (es := 1) hcan
                simpa using this
              · simp
  have bad : i < 0 ∨ (s.length : Int) < i → K (tupL AV.str ([], 0, 3)) σ := fun h => by
    rw [readR, if_pos h] at hK; exact hK
  simp -dsimp only [↓reduceIte, go_sem]
  refine guardV_split (fun h1 => ?_) (fun h1 => ?_) <;> (try rw [h1])
  · have h1 : ¬ i < 0 := by simpa using h1
    simp -dsimp only [↓reduceIte, go_sem]
    refine arr_intro fun _ => ?_
    simp -dsimp only [↓reduceIte, go_sem]
    refine boolW_split (fun h2 => ?_) (fun h2 => ?_)
    · have h2 : (s.length : Int) < i := by simpa using h2
      simp -dsimp only [↓reduceIte, go_sem]
      exact nil _ _ _ (Ext.refl _) (bad (.inr h2))
    · have h2 : ¬ (s.length : Int) < i := by simpa using h2
      have hok : ¬ (i < 0 ∨ (s.length : Int) < i) := by omega
      have hi : (i.toNat : Int) = i := by omega
      simp -dsimp only [↓reduceIte, go_sem]
      refine arr_intro fun _ => ?_
      simp -dsimp only [↓reduceIte, go_sem]
      refine boolW_split (fun h3 => ?_) (fun h3 => ?_)
      · have h3 : i.toNat = s.length := by simp at h3; omega
        rw [readR, if_neg hok, if_pos h3] at hK
        simp -dsimp only [↓reduceIte, go_sem]
        exact nil _ _ _ (Ext.refl _) hK
      · have h3 : i.toNat ≠ s.length := by simp at h3; omega
        obtain ⟨b, hb⟩ := get_lt (l := s) (i := i.toNat) (by omega)
        have hbb := bAt_of hb
        simp -dsimp only [↓reduceIte, go_sem]
        rw [← hi]
        refine nth_get hb ?_
        simp -dsimp only [↓reduceIte, go_sem]
        refine boolW_split (fun h4 => ?_) (fun h4 => ?_)
        · have h4 : bAt s i.toNat ≠ 40 := by rw [hbb]; simp at h4; omega
          rw [readR, if_neg hok, if_neg h3, if_pos h4] at hK
          simp -dsimp only [↓reduceIte, go_sem]
          exact nil _ _ _ (Ext.refl _) hK
        · have h4 : bAt s i.toNat = 40 := by rw [hbb]; simp at h4; omega
          simp -dsimp only [↓reduceIte, go_sem]
          refine go _ ?_ ?_ ?_ hok h3 h4 <;> simp only [go_sem, hi]
  · have h1 : i < 0 := by simpa using h1
    simp -dsimp only [↓reduceIte, go_sem]
    exact nil _ _ _ (Ext.refl _) (bad (.inl h1))
end Go.Aff.L01

/- Layer 1, walked: the reference's lists that are read. -/
namespace Go.Aff.L01
open Go.Proofs Go.Aff
set_option linter.unusedVariables false
set_option linter.unusedSimpArgs false
attribute [local go_sem] Try.underlying3 Try.underlying4 Try.underlying5 Try.underlying9 Try.underlying43 Try.underlying75 Try.underlying23 Try.underlying44 Try.underlying29 fits3 fits9

def openE (s : List UInt8) (i : Int) : Int := if i < 0 ∨ (s.length : Int) < i then 3 else if i.toNat = s.length then 5 else if bAt s i.toNat ≠ 40 then 6 else 0
theorem open_ok {s : List UInt8} {i : Int} (h : openE s i = 0) : ¬ (i < 0 ∨ (s.length : Int) < i) ∧ i.toNat ≠ s.length ∧ bAt s i.toNat = 40 := by
  unfold openE at h
  split at h
  · cases h
  · split at h
    · cases h
    · split at h
      · cases h
      · rename_i a b c; exact ⟨a, b, Classical.not_not.1 c⟩
theorem open_bad {α : Type} {one : Nat → α × Int × Int} {s : List UInt8} {i : Int} (h : openE s i ≠ 0) : readR one s i = ([], 0, openE s i) := by
  unfold openE at h ⊢; unfold readR
  split
  · rfl
  · split
    · rfl
    · split
      · rfl
      · rename_i a b c; rw [if_neg a, if_neg b, if_neg c] at h; exact absurd rfl h

theorem open_c {s : List UInt8} {i : Int} (hi0 : -9223372036854775808 ≤ i) (hi1 : i ≤ 9223372036854775807) {σ : AST} {K : AV → AST → Prop} (hK : K (.int .i64 (openE s i)) σ) : TCalls Try.prog 59 [.str s, .int .i64 i] σ K := by
  refine tcalls_walk Try.f59 _ [.tmp 4] Try.func59 rfl rfl rfl mixed (Nat.le_of_ble_eq_true rfl) rfl fun hlen => ?_
  unfold openE at hK
  have go : ∀ b, (decide (i < 0) = b) → True := fun _ _ => trivial
  simp -dsimp only [↓reduceIte, go_sem]
  refine guardV_split (fun h1 => ?_) (fun h1 => ?_) <;> (try rw [h1])
  · have h1 : ¬ i < 0 := by simpa using h1
    simp -dsimp only [↓reduceIte, go_sem]
    refine arr_intro fun _ => ?_
    simp -dsimp only [↓reduceIte, go_sem]
    refine boolW_split (fun h2 => ?_) (fun h2 => ?_)
    · have h2 : (s.length : Int) < i := by simpa using h2
      rw [if_pos (.inr h2)] at hK
      simp -dsimp only [↓reduceIte, go_sem]
      exact hK
    · have h2 : ¬ (s.length : Int) < i := by simpa using h2
      rw [if_neg (by omega)] at hK
      simp -dsimp only [↓reduceIte, go_sem]
      refine arr_intro fun _ => ?_
      simp -dsimp only [↓reduceIte, go_sem]
      refine boolW_split (fun h3 => ?_) (fun h3 => ?_)
      · have h3 : i.toNat = s.length := by simp at h3; omega
        rw [if_pos h3] at hK
        simp -dsimp only [↓reduceIte, go_sem]
        exact hK
      · have h3 : i.toNat ≠ s.length := by simp at h3; omega
        rw [if_neg h3] at hK
        obtain ⟨b, hb⟩ := get_lt (l := s) (i := i.toNat) (by omega)
        rw [bAt_of hb] at hK
        have hi : (i.toNat : Int) = i := by omega
        simp -dsimp only [↓reduceIte, go_sem]
        rw [← hi]
        refine nth_get hb ?_
        simp -dsimp only [↓reduceIte, go_sem]
        refine boolW_split (fun h4 => ?_) (fun h4 => ?_)
        · have h4 : b.toNat ≠ 40 := by simp at h4; omega
          rw [if_pos h4] at hK
          simp -dsimp only [↓reduceIte, go_sem]
          exact hK
        · have h4 : b.toNat = 40 := by simp at h4; omega
          rw [if_neg (by simp [h4])] at hK
          simp -dsimp only [↓reduceIte, go_sem]
          exact hK
  · have h1 : i < 0 := by simpa using h1
    rw [if_pos (.inl h1)] at hK
    simp -dsimp only [↓reduceIte, go_sem]
    exact hK

theorem ReadNumbers_c {s : List UInt8} {i : Int} (hi0 : -9223372036854775808 ≤ i) (hi1 : i ≤ 9223372036854775807) {σ : AST} {K : AV → AST → Prop}
    (hK : K (tupL (AV.int .i64) (readR (numP s) s i)) σ) : TCalls Try.prog 41 [.str s, .int .i64 i] σ K := by
  refine TCalls.drop ?_
  refine tcalls_walk Try.f41 _ [.tmp 4, .tmp 5, .tmp 6] Try.func41 rfl rfl rfl mixed (Nat.le_of_ble_eq_true rfl) rfl fun hlen => ?_
  have hs : s.length ≤ 9223372036854775807 := hlen (.str s) (by simp)
  have leaf : ∀ x, ((AV.int .i64) x).strip = (AV.int .i64) x ∧ ((AV.int .i64) x).noRef = true := fun x => ⟨by simp [AV.strip], rfl⟩
  have nil : ∀ (a b : Int) (s' : AST), Ext σ s' → K (tupL (AV.int .i64) ([], a, b)) σ → Ext σ s' ∧ (AV.tuple [.slice .full [], .int .i64 a, .int .i64 b]).noRef = true ∧ K (AV.tuple [.slice .full [], .int .i64 a, .int .i64 b]).strip σ := fun a b s' hx h => ⟨hx, rfl, h⟩
  simp -dsimp only [↓reduceIte, go_sem]
  refine open_c hi0 hi1 ?_
  by_cases ho : openE s i = 0
  · obtain ⟨hok, hne, h40⟩ := open_ok ho
    rw [ho]
    rw [readR, if_neg hok, if_neg hne, if_neg (by simp [h40])] at hK
    have hi : (i.toNat : Int) = i := by omega
    generalize hp : i.toNat = p at hi hK hne
    simp -dsimp only [↓reduceIte, go_sem]
    rw [← hi, show IntKind.i64.wrap ((p : Int) + 1) = ((p + 1 : Nat) : Int) by rw [wrap_i64 (by omega) (by omega)]; omega]
    refine awp_rounds (fun (x : Nat × List Int) τ s' => x.1 ≤ s.length ∧ x.2.length ≤ 512 ∧ Ext σ s' ∧ τ 0 = .str s ∧ τ 1 = .int .i64 x.1 ∧
      K (tupL (AV.int .i64) (readL (numP s) s x.1 x.2)) σ ∧ ∃ tk, (x.2 = [] ∧ tk = .full ∨ x.2 ≠ [] ∧ ∃ k, tk = .own k ∧ σ.toks.length ≤ k) ∧ canApp s' tk x.2.length 1 ∧ τ 8 = .slice tk (x.2.map (AV.int .i64))) (fun x => s.length - x.1) (p + 1, []) ?_ ?_
    · refine ⟨by dsimp only; omega, by simp, Ext.refl _, ?_, ?_, hK, .full, .inl ⟨rfl, rfl⟩, trivial, ?_⟩ <;> simp only [go_sem] <;> rfl
    · rintro ⟨q, acc⟩ τ s' ⟨hq, hacc, hx, t0, t1, hK, tk, htk, hcan, t9⟩
      dsimp only at hq hacc t1 hK htk hcan t9
      have htn : tkNew σ tk := by
        rcases htk with ⟨_, h⟩ | ⟨_, h⟩
        · exact .inl h
        · exact .inr h
      rw [readL] at hK
      simp -dsimp only [↓reduceIte, go_sem, t0, t1, t9]
      refine arr_intro fun _ => ?_
      simp -dsimp only [↓reduceIte, go_sem, t0, t1, t9]
      refine guardV_split (fun h1 => ?_) (fun h1 => ?_) <;> (try rw [h1])
      · have h1 : q < s.length := by simp at h1; omega
        rw [if_neg (by omega)] at hK
        obtain ⟨b, hb⟩ := get_lt h1
        rw [bAt_of hb] at hK
        simp -dsimp only [↓reduceIte, go_sem, t0, t1, t9]
        refine nth_get hb ?_
        simp -dsimp only [↓reduceIte, go_sem, t0, t1, t9]
        refine boolW_split (fun h2 => ?_) (fun h2 => ?_)
        · have h2 : ¬ b.toNat = 41 := by simp at h2; omega
          rw [if_neg h2] at hK
          simp -dsimp only [↓reduceIte, go_sem, t0, t1, t9]
          refine arr_intro fun _ => ?_
          simp only [List.length_map]
          simp -dsimp only [↓reduceIte, go_sem, t0, t1, t9]
          refine boolW_split (fun h3 => ?_) (fun h3 => ?_)
          · have h3 : 512 ≤ acc.length := by simp at h3; omega
            rw [if_pos h3] at hK
            simp -dsimp only [↓reduceIte, go_sem, t0, t1, t9]
            exact nil _ _ _ hx hK
          · have h3 : ¬ 512 ≤ acc.length := by simp at h3; omega
            rw [if_neg h3] at hK
            simp -dsimp only [↓reduceIte, go_sem, t0, t1, t9]
            refine ReadNumber_c (by omega) (by omega) ?_
            rw [numR_nat (by omega)]
            have hpr := numP_prog (s := s) (q := q) (by omega)
            generalize numP s q = res at hK hpr
            obtain ⟨x, nx, e⟩ := res
            dsimp only at hK hpr
            simp only [tup3]
            simp -dsimp only [↓reduceIte, go_sem, t0, t1, t9]
            refine boolW_split (fun h4 => ?_) (fun h4 => ?_)
            · have h4 : e ≠ 0 := by simpa using h4
              rw [if_pos h4] at hK
              simp -dsimp only [↓reduceIte, go_sem, t0, t1, t9]
              exact nil _ _ _ hx hK
            · have h4 : e = 0 := by simpa using h4
              obtain ⟨hp1, hp2⟩ := hpr h4
              rw [if_neg (by simp [h4]), dif_pos ⟨hp1, hp2⟩] at hK
              simp -dsimp only [↓reduceIte, go_sem, t0, t1, t9]
              refine build_slice E25 rfl (by decide) ?_ ?_
              · intro v hv
                simp at hv; subst hv
                exact ⟨by simp only [go_sem], rfl⟩
              simp -dsimp only [↓reduceIte, go_sem, t0, t1, t9]
              refine append_slice E25 (by rfl) (by simpa using hcan) (by intro v hv; simp at hv; subst hv; simp only [go_sem]) (by intro v hv; simp at hv; obtain ⟨y, _, rfl⟩ := hv; simp only [go_sem]) (by simp; omega) (by simp [maxL]; omega) ?_
              simp -dsimp only [↓reduceIte, go_sem, t0, t1, t9]
              refine later_intro ⟨(nx.toNat, acc ++ [x]), by dsimp only; omega, ?_⟩
              refine ⟨by dsimp only; omega, by simp; omega, hx.grow htn, ?_, ?_, hK, growT s' tk, ?_, ?_, ?_⟩ <;> (try simp only [go_sem, t0, t1, t9])
              · rw [show ((nx.toNat : Nat) : Int) = nx by omega]
              · refine .inr ⟨by simp, ?_⟩
                rcases htn.grow hx with h | h
                · rcases htk with ⟨_, rfl⟩ | ⟨_, k, rfl, _⟩ <;> simp [growT] at h
                · exact h
              · have := canApp_grow (n := acc.length + 1) (es := 1) hcan
                simpa using this
              · simp
        · have h2 : b.toNat = 41 := by simp at h2; omega
          rw [if_pos h2] at hK
          simp -dsimp only [↓reduceIte, go_sem, t0, t1, t9]
          refine arr_intro fun _ => ?_
          simp -dsimp only [↓reduceIte, go_sem, t0, t1, t9]
          refine boolW_split (fun h3 => ?_) (fun h3 => ?_)
          · simp at h3; omega
          · simp -dsimp only [↓reduceIte, go_sem, t0, t1, t9]
            rw [show IntKind.i64.wrap ((q : Int) + 1) = ((q + 1 : Nat) : Int) by rw [wrap_i64 (by omega) (by omega)]; omega]
            refine ⟨hx, ?_, ?_⟩
            · simp only [AV.noRef, AV.noRefs, noRefs_map (fun x => (leaf x).2), Bool.and_true]
            · simp only [AV.strip, AV.strips]
              rcases htk with ⟨rfl, rfl⟩ | ⟨hn, k, rfl, _⟩
              · exact hK
              · rw [strip_own, strips_map (fun x => (leaf x).1)]
                rw [tupL, if_neg hn] at hK
                exact hK
      · have h1 : q = s.length := by simp at h1; omega
        rw [if_pos h1] at hK
        simp -dsimp only [↓reduceIte, go_sem, t0, t1, t9]
        refine arr_intro fun _ => ?_
        simp -dsimp only [↓reduceIte, go_sem, t0, t1, t9]
        refine boolW_split (fun h3 => ?_) (fun h3 => ?_)
        · simp -dsimp only [↓reduceIte, go_sem, t0, t1, t9]
          exact nil _ _ _ hx hK
        · simp at h3; omega
  · have hb := open_bad (one := numP s) ho
    rw [hb] at hK
    simp -dsimp only [↓reduceIte, go_sem]
    rw [show (openE s i != 0) = true by simpa using ho]
    simp -dsimp only [↓reduceIte, go_sem]
    exact nil _ _ _ (Ext.refl _) hK

theorem ReadTexts_c {s : List UInt8} {i : Int} (hi0 : -9223372036854775808 ≤ i) (hi1 : i ≤ 9223372036854775807) {σ : AST} {K : AV → AST → Prop}
    (hK : K (tupL AV.str (readR (textP s) s i)) σ) : TCalls Try.prog 42 [.str s, .int .i64 i] σ K := by
  refine TCalls.drop ?_
  refine tcalls_walk Try.f42 _ [.tmp 4, .tmp 5, .tmp 6] Try.func42 rfl rfl rfl mixed (Nat.le_of_ble_eq_true rfl) rfl fun hlen => ?_
  have hs : s.length ≤ 9223372036854775807 := hlen (.str s) (by simp)
  have leaf : ∀ x, (AV.str x).strip = AV.str x ∧ (AV.str x).noRef = true := fun x => ⟨by simp [AV.strip], rfl⟩
  have nil : ∀ (a b : Int) (s' : AST), Ext σ s' → K (tupL AV.str ([], a, b)) σ → Ext σ s' ∧ (AV.tuple [.slice .full [], .int .i64 a, .int .i64 b]).noRef = true ∧ K (AV.tuple [.slice .full [], .int .i64 a, .int .i64 b]).strip σ := fun a b s' hx h => ⟨hx, rfl, h⟩
  simp -dsimp only [↓reduceIte, go_sem]
  refine open_c hi0 hi1 ?_
  by_cases ho : openE s i = 0
  · obtain ⟨hok, hne, h40⟩ := open_ok ho
    rw [ho]
    rw [readR, if_neg hok, if_neg hne, if_neg (by simp [h40])] at hK
    have hi : (i.toNat : Int) = i := by omega
    generalize hp : i.toNat = p at hi hK hne
    simp -dsimp only [↓reduceIte, go_sem]
    rw [← hi, show IntKind.i64.wrap ((p : Int) + 1) = ((p + 1 : Nat) : Int) by rw [wrap_i64 (by omega) (by omega)]; omega]
    refine awp_rounds (fun (x : Nat × List (List UInt8)) τ s' => x.1 ≤ s.length ∧ x.2.length ≤ 512 ∧ Ext σ s' ∧ τ 0 = .str s ∧ τ 1 = .int .i64 x.1 ∧
      K (tupL AV.str (readL (textP s) s x.1 x.2)) σ ∧ ∃ tk, (x.2 = [] ∧ tk = .full ∨ x.2 ≠ [] ∧ ∃ k, tk = .own k ∧ σ.toks.length ≤ k) ∧ canApp s' tk x.2.length 1 ∧ τ 8 = .slice tk (x.2.map AV.str)) (fun x => s.length - x.1) (p + 1, []) ?_ ?_
    · refine ⟨by dsimp only; omega, by simp, Ext.refl _, ?_, ?_, hK, .full, .inl ⟨rfl, rfl⟩, trivial, ?_⟩ <;> simp only [go_sem] <;> rfl
    · rintro ⟨q, acc⟩ τ s' ⟨hq, hacc, hx, t0, t1, hK, tk, htk, hcan, t9⟩
      dsimp only at hq hacc t1 hK htk hcan t9
      have htn : tkNew σ tk := by
        rcases htk with ⟨_, h⟩ | ⟨_, h⟩
        · exact .inl h
        · exact .inr h
      rw [readL] at hK
      simp -dsimp only [↓reduceIte, go_sem, t0, t1, t9]
      refine arr_intro fun _ => ?_
      simp -dsimp only [↓reduceIte, go_sem, t0, t1, t9]
      refine guardV_split (fun h1 => ?_) (fun h1 => ?_) <;> (try rw [h1])
      · have h1 : q < s.length := by simp at h1; omega
        rw [if_neg (by omega)] at hK
        obtain ⟨b, hb⟩ := get_lt h1
        rw [bAt_of hb] at hK
        simp -dsimp only [↓reduceIte, go_sem, t0, t1, t9]
        refine nth_get hb ?_
        simp -dsimp only [↓reduceIte, go_sem, t0, t1, t9]
        refine boolW_split (fun h2 => ?_) (fun h2 => ?_)
        · have h2 : ¬ b.toNat = 41 := by simp at h2; omega
          rw [if_neg h2] at hK
          simp -dsimp only [↓reduceIte, go_sem, t0, t1, t9]
          refine arr_intro fun _ => ?_
          simp only [List.length_map]
          simp -dsimp only [↓reduceIte, go_sem, t0, t1, t9]
          refine boolW_split (fun h3 => ?_) (fun h3 => ?_)
          · have h3 : 512 ≤ acc.length := by simp at h3; omega
            rw [if_pos h3] at hK
            simp -dsimp only [↓reduceIte, go_sem, t0, t1, t9]
            exact nil _ _ _ hx hK
          · have h3 : ¬ 512 ≤ acc.length := by simp at h3; omega
            rw [if_neg h3] at hK
            simp -dsimp only [↓reduceIte, go_sem, t0, t1, t9]
            refine ReadText_c (by omega) (by omega) ?_
            rw [textR_nat (by omega)]
            have hpr := textP_prog (s := s) (q := q) (by omega)
            generalize textP s q = res at hK hpr
            obtain ⟨x, nx, e⟩ := res
            dsimp only at hK hpr
            simp only [tupT]
            simp -dsimp only [↓reduceIte, go_sem, t0, t1, t9]
            refine boolW_split (fun h4 => ?_) (fun h4 => ?_)
            · have h4 : e ≠ 0 := by simpa using h4
              rw [if_pos h4] at hK
              simp -dsimp only [↓reduceIte, go_sem, t0, t1, t9]
              exact nil _ _ _ hx hK
            · have h4 : e = 0 := by simpa using h4
              obtain ⟨hp1, hp2⟩ := hpr h4
              rw [if_neg (by simp [h4]), dif_pos ⟨hp1, hp2⟩] at hK
              simp -dsimp only [↓reduceIte, go_sem, t0, t1, t9]
              refine build_slice E26 rfl (by decide) ?_ ?_
              · intro v hv
                simp at hv; subst hv
                exact ⟨by simp only [go_sem], rfl⟩
              simp -dsimp only [↓reduceIte, go_sem, t0, t1, t9]
              refine append_slice E26 (by rfl) (by simpa using hcan) (by intro v hv; simp at hv; subst hv; simp only [go_sem]) (by intro v hv; simp at hv; obtain ⟨y, _, rfl⟩ := hv; simp only [go_sem]) (by simp; omega) (by simp [maxL]; omega) ?_
              simp -dsimp only [↓reduceIte, go_sem, t0, t1, t9]
              refine later_intro ⟨(nx.toNat, acc ++ [x]), by dsimp only; omega, ?_⟩
              refine ⟨by dsimp only; omega, by simp; omega, hx.grow htn, ?_, ?_, hK, growT s' tk, ?_, ?_, ?_⟩ <;> (try simp only [go_sem, t0, t1, t9])
              · rw [show ((nx.toNat : Nat) : Int) = nx by omega]
              · refine .inr ⟨by simp, ?_⟩
                rcases htn.grow hx with h | h
                · rcases htk with ⟨_, rfl⟩ | ⟨_, k, rfl, _⟩ <;> simp [growT] at h
                · exact h
              · have := canApp_grow (n := acc.length + 1) (es := 1) hcan
                simpa using this
              · simp
        · have h2 : b.toNat = 41 := by simp at h2; omega
          rw [if_pos h2] at hK
          simp -dsimp only [↓reduceIte, go_sem, t0, t1, t9]
          refine arr_intro fun _ => ?_
          simp -dsimp only [↓reduceIte, go_sem, t0, t1, t9]
          refine boolW_split (fun h3 => ?_) (fun h3 => ?_)
          · simp at h3; omega
          · simp -dsimp only [↓reduceIte, go_sem, t0, t1, t9]
            rw [show IntKind.i64.wrap ((q : Int) + 1) = ((q + 1 : Nat) : Int) by rw [wrap_i64 (by omega) (by omega)]; omega]
            refine ⟨hx, ?_, ?_⟩
            · simp only [AV.noRef, AV.noRefs, noRefs_map (fun x => (leaf x).2), Bool.and_true]
            · simp only [AV.strip, AV.strips]
              rcases htk with ⟨rfl, rfl⟩ | ⟨hn, k, rfl, _⟩
              · exact hK
              · rw [strip_own, strips_map (fun x => (leaf x).1)]
                rw [tupL, if_neg hn] at hK
                exact hK
      · have h1 : q = s.length := by simp at h1; omega
        rw [if_pos h1] at hK
        simp -dsimp only [↓reduceIte, go_sem, t0, t1, t9]
        refine arr_intro fun _ => ?_
        simp -dsimp only [↓reduceIte, go_sem, t0, t1, t9]
        refine boolW_split (fun h3 => ?_) (fun h3 => ?_)
        · simp -dsimp only [↓reduceIte, go_sem, t0, t1, t9]
          exact nil _ _ _ hx hK
        · simp at h3; omega
  · have hb := open_bad (one := textP s) ho
    rw [hb] at hK
    simp -dsimp only [↓reduceIte, go_sem]
    rw [show (openE s i != 0) = true by simpa using ho]
    simp -dsimp only [↓reduceIte, go_sem]
    exact nil _ _ _ (Ext.refl _) hK
end Go.Aff.L01

