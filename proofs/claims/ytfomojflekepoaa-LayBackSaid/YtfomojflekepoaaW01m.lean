/- Layer 1, walked: LayBack. -/
import Derived.Test.YtfomojflekepoaaW01l
namespace Go.Aff.L01
open Go.Proofs Go.Aff
set_option linter.unusedVariables false
set_option linter.unusedSimpArgs false
attribute [local go_sem] Try.underlying3 Try.underlying4 Try.underlying5 Try.underlying9 Try.underlying51 Try.underlying53 Try.underlying27 Try.underlying25 Try.underlying26 Try.underlying49 fits3 fits9 fits25 fits26 p49_0 p49_1 p49_2 p49_3 p49_4 p49_5

theorem layBack_c {A B s : List UInt8} {n : Int} {l : List Int} {t : List (List UInt8)} {tkl tkt : Tk} (hn : -9223372036854775808 ≤ n ∧ n ≤ 9223372036854775807) (hl : ∀ n ∈ l, -9223372036854775808 ≤ n ∧ n ≤ 9223372036854775807)
    {σ : AST} {K : AV → AST → Prop} (hK : K (.bool true) σ) :
    TCalls Try.prog 7 [.agg [.str A, .str B, .int .i64 n, .str s, .slice tkl (l.map (AV.int .i64)), .slice tkt (t.map AV.str)]] σ K := by
  refine TCalls.drop ?_
  refine tcalls_walk Try.f7 _ [.tmp 2] Try.func7 rfl rfl rfl mixed (Nat.le_of_ble_eq_true rfl) rfl fun hlen => ?_
  refine awp_seq_k fun K1 hK1 => ?_
  simp -dsimp only [↓reduceIte, go_sem]
  have ho : ∀ p, objCell (.cells (.agg [.str A, .str B, .int .i64 n, .str s, .slice tkl (l.map (AV.int .i64)), .slice tkt (t.map AV.str)])) p = (AV.agg [.str A, .str B, .int .i64 n, .str s, .slice tkl (l.map (AV.int .i64)), .slice tkt (t.map AV.str)]).at p := fun p => rfl
  generalize AObj.cells (.agg [.str A, .str B, .int .i64 n, .str s, .slice tkl (l.map (AV.int .i64)), .slice tkt (t.map AV.str)]) = obj at ho ⊢
  have fin : Ext σ (σ.push obj) ∧ (AV.bool true).noRef = true ∧ K (AV.bool true).strip σ := ⟨Ext.push _ _, rfl, hK⟩
  refine hK1 _ _ (awp_seq_k fun K2 hK2 => ?_)
  have go : ∀ τ : Env, τ 1 = .ptr (some (σ.objs.length, [])) → A.length ≤ 5000 → B.length ≤ 5000 → K2 τ (σ.push obj) := by
    intro τ t1 hA hB
    refine hK2 _ _ (awp_seq_k fun K3 hK3 => ?_)
    simp -dsimp only [↓reduceIte, go_sem, t1, ho]
    refine arr_intro fun _ => ?_
    simp -dsimp only [↓reduceIte, go_sem, t1, ho]
    refine hK3 _ _ (awp_seq_k fun K4 hK4 => ?_)
    simp -dsimp only [↓reduceIte, go_sem, t1, ho]
    refine number_c hn.1 hn.2 ?_
    simp -dsimp only [↓reduceIte, go_sem, t1, ho]
    refine hK4 _ _ (awp_seq_k fun K5 hK5 => ?_)
    have hnl := numS_len hn.1 hn.2
    simp -dsimp only [↓reduceIte, go_sem, t1, ho]
    refine side_later (by simp only [maxL]; omega) ?_
    simp -dsimp only [↓reduceIte, go_sem, t1, ho]
    refine side_later (by simp [maxL]; omega) ?_
    simp -dsimp only [↓reduceIte, go_sem, t1, ho]
    refine readNumber_n (by simp) (by simp; omega) ?_
    rw [List.append_assoc, num_back hn.1 hn.2, tup3_of]
    simp -dsimp only [↓reduceIte, go_sem, t1, ho]
    refine hK5 _ _ (awp_seq_k fun K6 hK6 => ?_)
    simp -dsimp only [↓reduceIte, go_sem, t1, ho]
    refine arr_intro fun _ => ?_
    simp -dsimp only [↓reduceIte, go_sem, t1, ho]
    rw [show IntKind.i64.wrap (((A.length + (numS n).length : Nat) : Int) - (A.length : Int)) = ((numS n).length : Int) by rw [wrap_i64 (by omega) (by omega)]; omega]
    simp -dsimp only [↓reduceIte, go_sem, t1, ho]
    -- the text
    have go2 : ∀ τ : Env, τ 1 = .ptr (some (σ.objs.length, [])) → τ 3 = .int .i64 A.length → K6 τ (σ.push obj) := by
      intro τ t1 t3
      refine hK6 _ _ (awp_seq_k fun K7 hK7 => ?_)
      have go3 : ∀ τ : Env, τ 1 = .ptr (some (σ.objs.length, [])) → τ 3 = .int .i64 A.length → K7 τ (σ.push obj) := by
        intro τ t1 t3
        refine hK7 _ _ (awp_seq_k fun K8 hK8 => ?_)
        have go4 : ∀ τ : Env, τ 1 = .ptr (some (σ.objs.length, [])) → τ 3 = .int .i64 A.length → K8 τ (σ.push obj) := by
          intro τ t1 t3
          refine hK8 _ _ ?_
          simp -dsimp only [↓reduceIte, go_sem, t1, t3, ho]
          refine texts_c ?_
          unfold textsR
          split
          · simp -dsimp only [↓reduceIte, go_sem, t1, t3, ho]
            exact fin
          · rename_i hl
            have hlb : (laidAll textS t).length ≤ 9000000 := by
              have := part_len' (f := textS) (l := t) (m := 16405) (i := t.length) (fun x hx => textS_len (fun h => hl (.inr ⟨x, List.mem_of_mem_take hx, h⟩))) (Nat.le_refl _)
              simp [laidAll]; omega
            simp -dsimp only [↓reduceIte, go_sem, t1, t3, ho]
            refine side_later (by simp only [maxL]; omega) ?_
            simp -dsimp only [↓reduceIte, go_sem, t1, t3, ho]
            refine side_later (by simp [maxL]; omega) ?_
            simp -dsimp only [↓reduceIte, go_sem, t1, t3, ho]
            refine readTexts_c (by omega) (by omega) ?_
            rw [List.append_assoc, texts_back (fun x hx h => hl (.inr ⟨x, hx, h⟩)) (fun h => hl (.inl h))]
            simp only [tupL]
            have hsl : (if t = [] then AV.slice .full [] else AV.slice .none (t.map AV.str)) = AV.slice (if t = [] then .full else .none) (t.map AV.str) := by split <;> simp_all
            rw [hsl]
            simp -dsimp only [↓reduceIte, go_sem, t1, t3, ho]
            refine same_c ?_
            rw [decide_eq_true rfl]
            simp -dsimp only [↓reduceIte, go_sem, t1, t3, ho]
            refine arr_intro fun _ => ?_
            simp -dsimp only [↓reduceIte, go_sem, t1, t3, ho]
            rw [show IntKind.i64.wrap (((A.length + (laidAll textS t).length : Nat) : Int) - (A.length : Int)) = ((laidAll textS t).length : Int) by rw [wrap_i64 (by omega) (by omega)]; omega]
            simp -dsimp only [↓reduceIte, go_sem, t1, t3, ho]
            exact fin
        simp -dsimp only [↓reduceIte, go_sem, t1, t3, ho]
        refine numbers_c hl ?_
        split
        · simp -dsimp only [↓reduceIte, go_sem, t1, t3, ho]
          refine go4 _ ?_ ?_ <;> simp only [go_sem, t1, t3]
        · rename_i hll
          have hlb : (laidAll numS l).length ≤ 9000000 := by
            have := part_len (f := numS) (l := l) (m := 22) (i := l.length) (fun x hx => numS_len (hl x hx).1 (hl x hx).2) (Nat.le_refl _)
            simp [laidAll]; omega
          simp -dsimp only [↓reduceIte, go_sem, t1, t3, ho]
          refine side_later (by simp only [maxL]; omega) ?_
          simp -dsimp only [↓reduceIte, go_sem, t1, t3, ho]
          refine side_later (by simp [maxL]; omega) ?_
          simp -dsimp only [↓reduceIte, go_sem, t1, t3, ho]
          refine readNumbers_c (by omega) (by omega) ?_
          rw [List.append_assoc, ints_back hl hll]
          simp only [tupL]
          have hsl : (if l = [] then AV.slice .full [] else AV.slice .none (l.map (AV.int .i64))) = AV.slice (if l = [] then .full else .none) (l.map (AV.int .i64)) := by split <;> simp_all
          rw [hsl]
          simp -dsimp only [↓reduceIte, go_sem, t1, t3, ho]
          refine ints_c ?_
          rw [decide_eq_true rfl]
          simp -dsimp only [↓reduceIte, go_sem, t1, t3, ho]
          refine arr_intro fun _ => ?_
          simp -dsimp only [↓reduceIte, go_sem, t1, t3, ho]
          rw [show IntKind.i64.wrap (((A.length + (laidAll numS l).length : Nat) : Int) - (A.length : Int)) = ((laidAll numS l).length : Int) by rw [wrap_i64 (by omega) (by omega)]; omega]
          simp -dsimp only [↓reduceIte, go_sem, t1, t3, ho]
          refine go4 _ ?_ ?_ <;> simp only [go_sem, t1, t3]
      simp -dsimp only [↓reduceIte, go_sem, t1, t3, ho]
      refine text_c ?_
      split
      · simp -dsimp only [↓reduceIte, go_sem, t1, t3, ho]
        refine go3 _ ?_ ?_ <;> simp only [go_sem, t1, t3]
      · rename_i hs
        have htl := textS_len hs
        simp -dsimp only [↓reduceIte, go_sem, t1, t3, ho]
        refine side_later (by simp only [maxL]; omega) ?_
        simp -dsimp only [↓reduceIte, go_sem, t1, t3, ho]
        refine side_later (by simp [maxL]; omega) ?_
        simp -dsimp only [↓reduceIte, go_sem, t1, t3, ho]
        refine readText_n (by simp) (by simp; omega) ?_
        rw [List.append_assoc, text_back hs]
        simp only [tupT]
        simp -dsimp only [↓reduceIte, go_sem, t1, t3, ho]
        refine arr_intro fun _ => ?_
        simp -dsimp only [↓reduceIte, go_sem, t1, t3, ho]
        rw [show IntKind.i64.wrap (((A.length + (textS s).length : Nat) : Int) - (A.length : Int)) = ((textS s).length : Int) by rw [wrap_i64 (by omega) (by omega)]; omega]
        simp -dsimp only [↓reduceIte, go_sem, t1, t3, ho]
        refine go3 _ ?_ ?_ <;> simp only [go_sem, t1, t3]
    refine go2 _ ?_ ?_ <;> simp only [go_sem, t1]
  simp -dsimp only [↓reduceIte, go_sem, ho]
  refine arr_intro fun _ => ?_
  simp -dsimp only [↓reduceIte, go_sem, ho]
  refine guardV_split (fun h1 => ?_) (fun h1 => ?_) <;> (try rw [h1])
  · have h1 : A.length ≤ 5000 := by simp at h1; omega
    simp -dsimp only [↓reduceIte, go_sem, ho]
    refine arr_intro fun _ => ?_
    simp -dsimp only [↓reduceIte, go_sem, ho]
    refine guardV_split (fun h2 => ?_) (fun h2 => ?_) <;> (try rw [h2])
    · have h2 : B.length ≤ 5000 := by simp at h2; omega
      simp -dsimp only [↓reduceIte, go_sem, ho]
      refine awake_c ?_
      simp -dsimp only [↓reduceIte, go_sem, ho]
      refine go _ ?_ h1 h2 <;> simp only [go_sem]
    · simp -dsimp only [↓reduceIte, go_sem, ho]
      refine awake_c ?_
      simp -dsimp only [↓reduceIte, go_sem, ho]
      exact fin
  · simp -dsimp only [↓reduceIte, go_sem, ho]
    refine awake_c ?_
    simp -dsimp only [↓reduceIte, go_sem, ho]
    exact fin
end Go.Aff.L01
