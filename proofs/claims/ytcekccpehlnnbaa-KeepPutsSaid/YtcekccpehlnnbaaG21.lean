import Derived.Test.YtcekccpehlnnbaaG20
import Derived.Test.YtcekccpehlnnbaaG10

/- Layer 25, walked: awake, the laws. -/
namespace Go.Aff.L25
open Go.Proofs Go.Aff Go.Aff.L01 Classical
set_option linter.unusedVariables false
set_option linter.unusedSimpArgs false
attribute [local go_sem] Try.underlying3 Try.underlying4 Try.underlying5 Try.underlying9 Try.underlying22 Try.underlying23 Try.underlying25 Try.underlying26 Try.underlying29 Try.underlying44 Try.underlying45 Try.underlying47 Try.underlying53 Try.underlying67 fits3 fits9 fits53 p53_0 p53_1 fits22 fits23 fits29 fits25' p29_0 p29_1 p29_2 p29_3 p29_4 p25_0 p25_1 p25_2 p25_3 p25_4
attribute [local go_sem] push_app app_app length_app cellAt_app cellAt_app0 set_app set_app0 objs_app objs_app0 List.cons_append List.nil_append List.length_cons List.length_nil List.getElem?_cons_zero List.getElem?_cons_succ List.set_cons_zero List.set_cons_succ
attribute [-go_sem] cellAt_new
attribute [local go_sem] fits26 keeps_nil' slS_isAgg slS_size slS_known slS_shape fits67 p67_0 p67_1 piece_isAgg piece_size piece_known

theorem rises_nil : Rises [] := fun i n h => by simp at h
theorem right_zero : St.zero.Right := by
  refine ⟨by simp [St.zero], by simp [St.zero], by simp [St.zero], by simp [St.zero], by simp [St.zero], ?_, by simp [St.zero], ?_⟩ <;> exact rises_nil
def st0 : St := ⟨[97], [], [], [(5, [120])], [7, 9]⟩
theorem right_st0 : st0.Right := by
  refine ⟨by decide, by decide, by decide, by simp [st0], by decide, ?_, by decide, ?_⟩
  · intro i n h
    match i, h with
    | 0, h => simp [st0] at h; subst h; refine ⟨by omega, by omega, fun m h => by omega⟩
    | i + 1, h => simp [st0] at h
  · intro i n h
    match i, h with
    | 0, h => simp [st0] at h; subst h; refine ⟨by omega, by omega, fun m h => by omega⟩
    | 1, h => simp [st0] at h; subst h; refine ⟨by omega, by omega, fun m _ h => by simp [st0] at h; omega⟩
    | i + 2, h => simp [st0] at h
theorem nS {n : Nat} (h : n < 10) : numS (n : Int) = [UInt8.ofNat (48 + n), 59] := by
  rw [numS, if_neg (by omega), Int.natAbs_natCast, dg_small h]; rfl
theorem laid_zero : St.zero.laid = [48, 58, 48, 58, 48, 58, 40, 41, 40, 41, 40, 41] := by
  simp [St.laid, St.zero, textS, laidAll, L01.part, dg_small]
theorem laid_st0 : st0.laid = [49, 58, 97, 48, 58, 48, 58, 40, 53, 59, 41, 40, 49, 58, 120, 41, 40, 55, 59, 57, 59, 41] := by
  have a : numS 5 = [53, 59] := nS (n := 5) (by decide)
  have b : numS 7 = [55, 59] := nS (n := 7) (by decide)
  have c : numS 9 = [57, 59] := nS (n := 9) (by decide)
  simp [St.laid, st0, textS, laidAll, L01.part, dg_small, a, b, c]
theorem get_st0 : getS [49, 58, 97, 48, 58, 48, 58, 40, 53, 59, 41, 40, 49, 58, 120, 41, 40, 55, 59, 57, 59, 41] = (st0, 0) := by
  rw [← laid_st0]; exact getS_laid right_st0

theorem awake_c {σ : AST} {K : AV → AST → Prop} (hK : K (.bool true) σ) : TCalls Try.prog 12 [] σ K := by
  refine TCalls.drop ?_
  refine tcalls_walk Try.f12 _ [.tmp 0] Try.func12 rfl rfl rfl mixed (Nat.le_of_ble_eq_true rfl) rfl fun hlen => ?_
  simp -dsimp only [↓reduceIte, go_sem, zero29]
  refine ⟨zeroOf29, built29, ?_⟩
  rw [fill_nil]
  simp -dsimp only [↓reduceIte, go_sem]
  refine put_c (st := St.zero) (t1 := .full) (t2 := .full) (by simp [St.zero]) ?_
  rw [putR, if_pos right_zero, laid_zero]
  simp -dsimp only [↓reduceIte, go_sem]
  refine get_c ?_
  rw [get_st0]
  have hst : stS st0 = .agg [.str [97], .str [], .str [], .slice .none ([(5, [120])].map pieceV), .slice .none ([7, 9].map (AV.int .i64))] := rfl
  rw [hst]
  simp -dsimp only [↓reduceIte, go_sem]
  rw [zero29]
  refine ⟨zeroOf29, later_intro ?_⟩
  simp -dsimp only [↓reduceIte, go_sem]
  refine arr_intro fun _ => ?_
  simp -dsimp only [↓reduceIte, go_sem]
  rw [show (((1 : Nat) : Int) == 1) = true from rfl]
  simp -dsimp only [↓reduceIte, go_sem]
  refine nth_get (l := [pieceV ((5 : Int), [(120 : UInt8)])]) (i := 0) rfl ?_
  simp -dsimp only [↓reduceIte, go_sem, pieceV]
  refine arr_intro fun _ => ?_
  rw [show (([AV.int .i64 7, AV.int .i64 9].length : Nat) : Int) = 2 from rfl]
  simp -dsimp only [↓reduceIte, go_sem]
  exact ⟨Ext.app _ _, rfl, hK⟩

theorem putR_ex (st : St) : ∃ x e, putR st = .tuple [.str x, .int .i64 e] ∧ (e = 0 ↔ st.Right) ∧ (st.Right → x = st.laid) := by
  unfold putR; split
  · rename_i h; exact ⟨_, _, rfl, by simp [h], fun _ => rfl⟩
  · rename_i h; exact ⟨_, _, rfl, by simp [h], fun h' => absurd h' h⟩

theorem keepPuts_c {st : St} {t1 t2 : Tk} {σ : AST} {K : AV → AST → Prop} (hlp : st.puts.length ≤ 5864062014634) (hK : K (.bool true) σ) : TCalls Try.prog 3 [stateV t1 t2 st] σ K := by
  refine TCalls.drop ?_
  have hagg : (stateV t1 t2 st).isAgg = true := rfl
  have hsz : (stateV t1 t2 st).size = 5 := by simp [stateV, AV.size, AV.sizes]
  have hkn : (stateV t1 t2 st).known = true := rfl
  refine tcalls_walk Try.f3 _ [.tmp 2] Try.func3 rfl rfl rfl mixed (Nat.le_of_ble_eq_true rfl) rfl fun hlen => ?_
  simp -dsimp only [↓reduceIte, go_sem, hagg, hsz, hkn]
  refine to_c fun t3 t4 => ?_
  simp -dsimp only [↓reduceIte, go_sem, hagg, hsz, hkn]
  refine put_c hlp ?_
  by_cases hR : st.Right
  · rw [putR, if_pos hR]
    simp -dsimp only [↓reduceIte, go_sem, hagg, hsz, hkn]
    refine light_c ?_
    simp -dsimp only [↓reduceIte, go_sem, hagg, hsz, hkn]
    have hl : decide (st.puts.length < 300 ∧ st.prunes.length < 100) = true := by
      obtain ⟨-, -, -, -, h5, -, h7, -⟩ := hR
      simp; omega
    rw [hl]
    simp -dsimp only [↓reduceIte, go_sem, hagg, hsz, hkn]
    refine Right_c hlp ?_
    rw [decide_eq_true hR]
    simp -dsimp only [↓reduceIte, go_sem, hagg, hsz, hkn]
    refine awake_c ?_
    simp -dsimp only [↓reduceIte, go_sem, hagg, hsz, hkn]
    refine Lay_c hR ?_
    simp -dsimp only [↓reduceIte, go_sem, hagg, hsz, hkn]
    refine ⟨Ext.app _ _, rfl, hK⟩
  · rw [putR, if_neg hR]
    simp -dsimp only [↓reduceIte, go_sem, hagg, hsz, hkn]
    refine light_c ?_
    simp -dsimp only [↓reduceIte, go_sem, hagg, hsz, hkn]
    by_cases hl : st.puts.length < 300 ∧ st.prunes.length < 100
    · rw [decide_eq_true hl]
      simp -dsimp only [↓reduceIte, go_sem, hagg, hsz, hkn]
      refine Right_c hlp ?_
      rw [decide_eq_false hR]
      simp -dsimp only [↓reduceIte, go_sem, hagg, hsz, hkn]
      refine awake_c ?_
      simp -dsimp only [↓reduceIte, go_sem, hagg, hsz, hkn]
      refine ⟨Ext.app _ _, rfl, hK⟩
    · rw [decide_eq_false hl]
      simp -dsimp only [↓reduceIte, go_sem, hagg, hsz, hkn]
      refine awake_c ?_
      simp -dsimp only [↓reduceIte, go_sem, hagg, hsz, hkn]
      refine ⟨Ext.app _ _, rfl, hK⟩

theorem keepGets_c {s : List UInt8} {σ : AST} {K : AV → AST → Prop} (hK : K (.bool true) σ) : TCalls Try.prog 4 [.str s] σ K := by
  refine TCalls.drop ?_
  refine tcalls_walk Try.f4 _ [.tmp 2] Try.func4 rfl rfl rfl mixed (Nat.le_of_ble_eq_true rfl) rfl fun hlen => ?_
  simp -dsimp only [↓reduceIte, go_sem]
  refine arr_intro fun _ => ?_
  simp -dsimp only [↓reduceIte, go_sem]
  refine boolW_split (fun hb => ?_) (fun hb => ?_)
  · simp -dsimp only [↓reduceIte, go_sem]
    refine awake_c ?_
    simp -dsimp only [↓reduceIte, go_sem]
    refine ⟨Ext.refl _, rfl, hK⟩
  · simp -dsimp only [↓reduceIte, go_sem]
    refine get_c ?_
    obtain ⟨t1, t2, hst⟩ := stS_ex (getS s).1
    rw [hst]
    have hagg : (stateV t1 t2 (getS s).1).isAgg = true := rfl
    have hsz : (stateV t1 t2 (getS s).1).size = 5 := by simp [stateV, AV.size, AV.sizes]
    have hkn : (stateV t1 t2 (getS s).1).known = true := rfl
    have hsh : (stateV t1 t2 (getS s).1).shape = .node [.leaf, .leaf, .leaf, .leaf, .leaf] := rfl
    simp -dsimp only [↓reduceIte, go_sem, hagg, hsz, hkn]
    rw [zero29]
    refine ⟨zeroOf29, later_intro ?_⟩
    simp -dsimp only [↓reduceIte, go_sem, hagg, hsz, hkn, hsh]
    refine Get_c ?_
    rw [hst]
    simp -dsimp only [↓reduceIte, go_sem, hagg, hsz, hkn, hsh]
    rw [zero25]
    refine ⟨zeroOf25, later_intro ?_⟩
    simp -dsimp only [↓reduceIte, go_sem, hagg, hsz, hkn, hsh]
    refine awp_drawS (id := 5) [0, 1, 2, 3, 4, 5, 6, 7, 9, 8, 10, 11, 12] (by kernel_rfl) ?_
    simp -dsimp only [↓reduceIte, go_sem, hagg, hsz, hkn, hsh]
    refine awake_c ?_
    simp -dsimp only [↓reduceIte, go_sem, hagg, hsz, hkn, hsh]
    refine of_c fun t3 t4 => ?_
    simp -dsimp only [↓reduceIte, go_sem, hagg, hsz, hkn, hsh]
    refine Same_c ?_
    rw [decide_eq_true rfl]
    simp -dsimp only [↓reduceIte, go_sem, hagg, hsz, hkn, hsh]
    refine ⟨Ext.app _ _, rfl, hK⟩

theorem keepBack_c {st : St} {t1 t2 : Tk} {s : List UInt8} {σ : AST} {K : AV → AST → Prop} (hlp : st.puts.length ≤ 5864062014634) (hK : K (.bool true) σ) : TCalls Try.prog 5 [stateV t1 t2 st, .str s] σ K := by
  refine TCalls.drop ?_
  have hagg : ∀ t1 t2 st, (stateV t1 t2 st).isAgg = true := fun _ _ _ => rfl
  have hsz : ∀ t1 t2 st, (stateV t1 t2 st).size = 5 := fun _ _ _ => by simp [stateV, AV.size, AV.sizes]
  have hkn : ∀ t1 t2 st, (stateV t1 t2 st).known = true := fun _ _ _ => rfl
  have hsh : ∀ t1 t2 st, (stateV t1 t2 st).shape = .node [.leaf, .leaf, .leaf, .leaf, .leaf] := fun _ _ _ => rfl
  refine tcalls_walk Try.f5 _ [.tmp 4] Try.func5 rfl rfl rfl mixed (Nat.le_of_ble_eq_true rfl) rfl fun hlen => ?_
  refine awp_seq_k fun K1 hK1 => ?_
  simp -dsimp only [↓reduceIte, go_sem, hagg, hsz, hkn]
  refine hK1 _ _ (awp_seq_k fun K2 hK2 => ?_)
  simp -dsimp only [↓reduceIte, go_sem, hagg, hsz, hkn]
  refine to_c fun t3 t4 => ?_
  simp -dsimp only [↓reduceIte, go_sem, hagg, hsz, hkn]
  refine put_c hlp ?_
  obtain ⟨c, e, hp, he, hc⟩ := putR_ex st
  rw [hp]
  have go : ∀ (τ : Env) s', Ext σ s' → τ 1 = .str s → K2 τ s' := by
    intro τ s' hx u1
    refine hK2 _ _ ?_
    simp -dsimp only [↓reduceIte, go_sem, u1]
    refine arr_intro fun _ => ?_
    simp -dsimp only [↓reduceIte, go_sem, u1]
    refine boolW_split (fun hb => ?_) (fun hb => ?_)
    · simp -dsimp only [↓reduceIte, go_sem, u1]
      refine awake_c ?_
      simp -dsimp only [↓reduceIte, go_sem, u1]
      exact ⟨hx, rfl, hK⟩
    · simp -dsimp only [↓reduceIte, go_sem, u1]
      refine get_c ?_
      obtain ⟨r1, r2, hst⟩ := stS_ex (getS s).1
      rw [hst]
      simp -dsimp only [↓reduceIte, go_sem, u1, hagg, hsz, hkn]
      rw [zero29]
      refine ⟨zeroOf29, later_intro ?_⟩
      simp -dsimp only [↓reduceIte, go_sem, u1, hagg, hsz, hkn, hsh]
      have hxa : ∀ l, Ext σ (s'.app l) := fun l => hx.trans (Ext.app _ _)
      by_cases hg : (getS s).2 = 0
      · obtain ⟨hR, hl⟩ := laid_getS (s := s) (st := (getS s).1) (by rw [← hg])
        have hfalse : ((getS s).2 != 0) = false := by simp [hg]
        rw [hfalse]
        simp -dsimp only [↓reduceIte, go_sem, u1, hagg, hsz, hkn, hsh]
        refine put_c (by obtain ⟨-, -, -, -, h5, -⟩ := hR; omega) ?_
        rw [putR, if_pos hR, hl]
        simp -dsimp only [↓reduceIte, go_sem, u1, hagg, hsz, hkn, hsh]
        refine awake_c ?_
        simp -dsimp only [↓reduceIte, go_sem, u1, hagg, hsz, hkn, hsh]
        exact ⟨hxa _, rfl, hK⟩
      · have htrue : ((getS s).2 != 0) = true := by simp [hg]
        rw [htrue]
        simp -dsimp only [↓reduceIte, go_sem, u1, hagg, hsz, hkn, hsh]
        refine awake_c ?_
        simp -dsimp only [↓reduceIte, go_sem, u1, hagg, hsz, hkn, hsh]
        exact ⟨hxa _, rfl, hK⟩
  simp -dsimp only [↓reduceIte, go_sem, hagg, hsz, hkn]
  refine boolW_split (fun h0 => ?_) (fun h0 => ?_)
  · have h0 : e = 0 := by simpa using h0
    have hR := he.1 h0
    have hcc := hc hR
    subst hcc
    simp -dsimp only [↓reduceIte, go_sem, hagg, hsz, hkn]
    refine get_c ?_
    rw [getS_laid hR]
    dsimp only
    obtain ⟨r1, r2, hst⟩ := stS_ex st
    rw [hst]
    simp -dsimp only [↓reduceIte, go_sem, hagg, hsz, hkn]
    rw [zero29]
    refine ⟨zeroOf29, later_intro ?_⟩
    simp -dsimp only [↓reduceIte, go_sem, hagg, hsz, hkn, hsh]
    refine awp_drawS (id := 4) [0, 1, 2, 3, 5, 4, 6, 7, 8] (by kernel_rfl) ?_
    simp -dsimp only [↓reduceIte, go_sem, hagg, hsz, hkn, hsh]
    refine of_c fun t5 t6 => ?_
    simp -dsimp only [↓reduceIte, go_sem, hagg, hsz, hkn, hsh]
    refine Same_c ?_
    rw [decide_eq_true rfl]
    simp -dsimp only [↓reduceIte, go_sem, hagg, hsz, hkn, hsh]
    refine go _ _ (Ext.app _ _) ?_
    simp only [go_sem]
  · simp -dsimp only [↓reduceIte, go_sem]
    refine go _ _ (Ext.app _ _) ?_
    simp only [go_sem]

theorem keepApart_c {a b : St} {t1 t2 t3 t4 : Tk} {σ : AST} {K : AV → AST → Prop} (hla : a.puts.length ≤ 5864062014634) (hlb : b.puts.length ≤ 5864062014634) (hK : K (.bool true) σ) : TCalls Try.prog 6 [stateV t1 t2 a, stateV t3 t4 b] σ K := by
  refine TCalls.drop ?_
  have hagg : ∀ t1 t2 st, (stateV t1 t2 st).isAgg = true := fun _ _ _ => rfl
  have hsz : ∀ t1 t2 st, (stateV t1 t2 st).size = 5 := fun _ _ _ => by simp [stateV, AV.size, AV.sizes]
  have hkn : ∀ t1 t2 st, (stateV t1 t2 st).known = true := fun _ _ _ => rfl
  have hsh : ∀ t1 t2 st, (stateV t1 t2 st).shape = .node [.leaf, .leaf, .leaf, .leaf, .leaf] := fun _ _ _ => rfl
  refine tcalls_walk Try.f6 _ [.tmp 4] Try.func6 rfl rfl rfl mixed (Nat.le_of_ble_eq_true rfl) rfl fun hlen => ?_
  simp -dsimp only [↓reduceIte, go_sem, hagg, hsz, hkn]
  refine to_c fun t5 t6 => ?_
  simp -dsimp only [↓reduceIte, go_sem, hagg, hsz, hkn]
  refine put_c hla ?_
  obtain ⟨x, e, hpa, hea, hxa⟩ := putR_ex a
  rw [hpa]
  simp -dsimp only [↓reduceIte, go_sem, hagg, hsz, hkn]
  refine to_c fun t7 t8 => ?_
  simp -dsimp only [↓reduceIte, go_sem, hagg, hsz, hkn]
  refine put_c hlb ?_
  obtain ⟨y, f, hpb, hfb, hyb⟩ := putR_ex b
  rw [hpb]
  simp -dsimp only [↓reduceIte, go_sem, hagg, hsz, hkn]
  refine awake_c ?_
  simp -dsimp only [↓reduceIte, go_sem, hagg, hsz, hkn]
  refine guardV_split (fun h1 => ?_) (fun h1 => ?_) <;> (try rw [h1])
  · have h1 : e = 0 := by simpa using h1
    have hRa := hea.1 h1
    obtain rfl := hxa hRa
    simp -dsimp only [↓reduceIte, go_sem, hagg, hsz, hkn]
    refine guardV_split (fun h2 => ?_) (fun h2 => ?_) <;> (try rw [h2])
    · have h2 : f = 0 := by simpa using h2
      have hRb := hfb.1 h2
      obtain rfl := hyb hRb
      simp -dsimp only [↓reduceIte, go_sem, hagg, hsz, hkn]
      refine Same_c ?_
      have hab : (a.laid == b.laid) = decide (a = b) := by
        by_cases h : a = b
        · subst h; simp
        · rw [decide_eq_false h]; simp; exact fun h' => h (laid_inj hRa hRb h')
      rw [hab]
      simp -dsimp only [↓reduceIte, go_sem, hagg, hsz, hkn]
      exact ⟨Ext.app _ _, rfl, hK⟩
    · simp -dsimp only [↓reduceIte, go_sem, hagg, hsz, hkn]
      exact ⟨Ext.app _ _, rfl, hK⟩
  · simp -dsimp only [↓reduceIte, go_sem, hagg, hsz, hkn]
    exact ⟨Ext.app _ _, rfl, hK⟩

theorem keepSame_c {a b : St} {t1 t2 t3 t4 : Tk} {σ : AST} {K : AV → AST → Prop} (hK : K (.bool true) σ) : TCalls Try.prog 7 [stateV t1 t2 a, stateV t3 t4 b] σ K := by
  refine TCalls.drop ?_
  have hagg : ∀ t1 t2 st, (stateV t1 t2 st).isAgg = true := fun _ _ _ => rfl
  have hsz : ∀ t1 t2 st, (stateV t1 t2 st).size = 5 := fun _ _ _ => by simp [stateV, AV.size, AV.sizes]
  have hkn : ∀ t1 t2 st, (stateV t1 t2 st).known = true := fun _ _ _ => rfl
  refine tcalls_walk Try.f7 _ [.tmp 4] Try.func7 rfl rfl rfl mixed (Nat.le_of_ble_eq_true rfl) rfl fun hlen => ?_
  simp -dsimp only [↓reduceIte, go_sem, hagg, hsz, hkn]
  refine awp_drawS (id := 1) [0, 1, 2, 4, 7, 8, 3, 5, 6, 9, 10, 11, 12, 13, 15, 14, 16, 17, 18, 19] (by kernel_rfl) ?_
  simp -dsimp only [↓reduceIte, go_sem, hagg, hsz, hkn]
  refine awake_c ?_
  simp -dsimp only [↓reduceIte, go_sem, hagg, hsz, hkn]
  refine to_c fun t5 t6 => ?_
  simp -dsimp only [↓reduceIte, go_sem, hagg, hsz, hkn]
  refine to_c fun t7 t8 => ?_
  simp -dsimp only [↓reduceIte, go_sem, hagg, hsz, hkn]
  refine same_c ?_
  simp -dsimp only [↓reduceIte, go_sem, hagg, hsz, hkn]
  refine Same_c ?_
  simp -dsimp only [↓reduceIte, go_sem, hagg, hsz, hkn]
  refine to_c fun t5 t6 => ?_
  simp -dsimp only [↓reduceIte, go_sem, hagg, hsz, hkn]
  refine to_c fun t7 t8 => ?_
  simp -dsimp only [↓reduceIte, go_sem, hagg, hsz, hkn]
  refine same_c ?_
  rw [decide_eq_true rfl]
  simp -dsimp only [↓reduceIte, go_sem, hagg, hsz, hkn]
  exact ⟨Ext.app _ _, rfl, hK⟩
end Go.Aff.L25

/- Layer 25: what an argument's shape says of a state. -/
namespace Go.Aff.L25
open Go.Proofs Go.Aff Go.Aff.L01 Classical
set_option linter.unusedVariables false

theorem sh_piece {n : Nat} {v : AV} (h : ShT Try.prog (n + 4) 53 v) : ∃ x : Int × List UInt8, v = pieceV x ∧ True := by
  obtain ⟨ps, rfl, hps⟩ := sh_struct (n := n + 3) Try.underlying53 h
  obtain ⟨p0, r, rfl, h0, hps⟩ := shTs_cons (n := n + 2) hps
  obtain ⟨p1, r, rfl, h1, hps⟩ := shTs_cons (n := n + 1) hps
  obtain rfl := shTs_nil hps
  obtain ⟨i, rfl, _, _⟩ := sh_int (n := n + 1) (t := 3) Try.underlying3 h0
  obtain ⟨s, rfl⟩ := sh_str (n := n) (t := 9) Try.underlying9 h1
  exact ⟨(i, s), rfl, trivial⟩
theorem sh_state {v : AV} (h : ShT Try.prog 12 25 v) (w : WtT Try.prog 12 25 v) : ∃ t1 t2 st, v = stateV t1 t2 st ∧ st.puts.length ≤ 5864062014634 := by
  obtain ⟨ps, rfl, hps⟩ := sh_struct (n := 11) Try.underlying25 h
  obtain ⟨p0, r, rfl, h0, hps⟩ := shTs_cons (n := 10) hps
  obtain ⟨p1, r, rfl, h1, hps⟩ := shTs_cons (n := 9) hps
  obtain ⟨p2, r, rfl, h2, hps⟩ := shTs_cons (n := 8) hps
  obtain ⟨p3, r, rfl, h3, hps⟩ := shTs_cons (n := 7) hps
  obtain ⟨p4, r, rfl, h4, hps⟩ := shTs_cons (n := 6) hps
  obtain rfl := shTs_nil hps
  have w := wt_struct (n := 11) Try.underlying25 w
  obtain ⟨-, w⟩ := wtTs_cons (n := 10) w
  obtain ⟨-, w⟩ := wtTs_cons (n := 9) w
  obtain ⟨-, w⟩ := wtTs_cons (n := 8) w
  obtain ⟨w3, w⟩ := wtTs_cons (n := 7) w
  obtain ⟨a, rfl⟩ := sh_str (n := 9) (t := 9) Try.underlying9 h0
  obtain ⟨b, rfl⟩ := sh_str (n := 8) (t := 9) Try.underlying9 h1
  obtain ⟨c, rfl⟩ := sh_str (n := 7) (t := 9) Try.underlying9 h2
  obtain ⟨t1, xs3, rfl, e3⟩ := sh_slice (n := 6) (t := 22) Try.underlying22 h3
  obtain ⟨l, rfl, _⟩ := map_of (f := pieceV) (p := fun _ => True) (fun x hx => sh_piece (n := 2) (e3 x hx))
  obtain ⟨t2, xs4, rfl, e4⟩ := sh_slice (n := 5) (t := 23) Try.underlying23 h4
  obtain ⟨m, rfl, _⟩ := map_of (f := AV.int .i64) (p := fun _ => True) (fun x hx => by obtain ⟨i, rfl, _, _⟩ := sh_int (n := 4) (t := 3) Try.underlying3 (e4 x hx); exact ⟨i, rfl, trivial⟩)
  have w4 := (wt_slice (n := 6) Try.underlying22 w3).1
  rw [show Try.prog.bytesOf 53 = 24 by kernel_rfl, List.length_map] at w4
  exact ⟨t1, t2, ⟨a, b, c, l, m⟩, rfl, by show l.length ≤ _; omega⟩
end Go.Aff.L25

