import Derived.Test.YtlpgigmifjdpbaaG17
import Derived.Test.YtlpgigmifjdpbaaG9

/- Layer 16, walked: what is known only grows. -/
namespace Go.Aff.L16
open Go.Proofs Go.Aff Go.Aff.L09 Classical
set_option linter.unusedVariables false
set_option linter.unusedSimpArgs false
attribute [local go_sem] push_app app_app length_app cellAt_app cellAt_app0 set_app set_app0 objs_app objs_app0 List.cons_append List.nil_append List.length_cons List.length_nil List.getElem?_cons_zero List.getElem?_cons_succ List.set_cons_zero List.set_cons_succ
attribute [local go_sem] Try.underlying3 fits4 Try.underlying4 fits5 Try.underlying5 Try.underlying9 fits22 Try.underlying22 fits23 Try.underlying23 fits24 Try.underlying24 fits30 Try.underlying30 fits33 Try.underlying33 fits38 p38_0 p38_1 p38_2 p38_3 Try.underlying38 fits42 Try.underlying42 fits54 p54_0 p54_1 p54_2 Try.underlying54 fits57 p57_0 p57_1 Try.underlying57 fits58 Try.underlying58 fits60 p60_0 p60_1 p60_2 p60_3 p60_4 p60_5 Try.underlying60 fits66 Try.underlying66 fits69 Try.underlying69 fits47 p47_0 p47_1 p47_2 p47_3 Try.underlying47
attribute [local go_sem] fits3 fits9 sizes_cls
attribute [-go_sem] cellAt_new

attribute [local go_sem] line_size line_known line_shape

theorem knownGrows_c {c me : Int} {l : List Line} {tk : Tk} {σ : AST} {K : AV → AST → Prop} (hK : K (.bool true) σ) : TCalls Try.prog 3 [.int .i64 c, .int .i64 me, .slice tk (l.map lineV)] σ K := by
  refine TCalls.drop ?_
  refine tcalls_walk Try.f3 _ [.tmp 6] Try.func3 rfl rfl rfl mixed (Nat.le_of_ble_eq_true rfl) rfl fun hlen => ?_
  simp -dsimp only [↓reduceIte, go_sem]
  refine New_c (fun h => ?_) (fun n m hn hm hn2 hn8 hmn => ?_)
  · simp -dsimp only [↓reduceIte, go_sem]
    refine awake_c ?_
    simp -dsimp only [↓reduceIte, go_sem]
    exact ⟨Ext.refl _, rfl, hK⟩
  · subst hn hm
    simp -dsimp only [↓reduceIte, go_sem]
    refine few_c ?_
    obtain ⟨tkf, hF⟩ := slS_tk (f := lineV) (l := fewL l)
    rw [hF]
    simp -dsimp only [↓reduceIte, go_sem]
    have hFl := fewL_len (l := l)
    refine awp_rounds (fun (i : Nat) τ s => i ≤ (fewL l).length ∧ Ext σ s ∧ s.objs[σ.objs.length]? = some (.cells (kV n m (allL n ((fewL l).take i)))) ∧ τ 0 = .int .i64 n ∧ τ 2 = .slice tkf ((fewL l).map lineV) ∧ τ 7 = .ptr (some (σ.objs.length, [])) ∧ τ 9 = .int .i64 i) (fun i => (fewL l).length - i) 0 ?_ ?_
    · refine ⟨by omega, Ext.app _ _, ?_, ?_, ?_, ?_, ?_⟩ <;> (try simp only [go_sem]) <;> rfl
    · rintro i τ s ⟨hi, hx, hok, t0, t2, t7, t9⟩
      simp -dsimp only [↓reduceIte, go_sem, t0, t2, t7, t9]
      refine arr_intro fun _ => ?_
      simp only [List.length_map]
      simp -dsimp only [↓reduceIte, go_sem, t0, t2, t7, t9]
      refine boolW_split (fun hb => ?_) (fun hb => ?_)
      · have hb : i < (fewL l).length := by simp at hb; omega
        obtain ⟨x, hx1⟩ := get_lt hb
        have htake : allL n ((fewL l).take (i + 1)) = learned n (allL n ((fewL l).take i)) x := by rw [List.take_add_one, hx1]; exact all_snoc
        have hgood := good_all (n := (n : Int)) (F := (fewL l).take i)
        generalize allL (n : Int) ((fewL l).take i) = L at hok htake hgood
        simp -dsimp only [↓reduceIte, go_sem, t0, t2, t7, t9]
        refine longest_c hok ?_
        simp -dsimp only [↓reduceIte, go_sem, t0, t2, t7, t9]
        rw [zero30]
        refine ⟨zeroOf30, later_intro ?_⟩
        simp -dsimp only [↓reduceIte, go_sem, t0, t2, t7, t9]
        have hok0 := objs_known_app hok [.cells (.dig (longest L).tag)]
        have hx0 : Ext σ (s.app [.cells (.dig (longest L).tag)]) := hx.trans (Ext.app _ _)
        generalize s.app [.cells (.dig (longest L).tag)] = s0 at hok0 hx0
        refine stable_c hok0 hn8 ?_
        obtain ⟨tks, hts⟩ := slS_tk (f := AV.int .i64) (l := stable n m L)
        rw [hts]
        simp -dsimp only [↓reduceIte, go_sem, t0, t2, t7, t9]
        refine cut_c hok0 (by omega) hn8 ?_
        simp -dsimp only [↓reduceIte, go_sem, t0, t2, t7, t9]
        refine seen_c hok0 hn2 hmn hn8 ?_
        simp -dsimp only [↓reduceIte, go_sem, t0, t2, t7, t9]
        refine awp_drawF [(0, 2), (1, 2), (2, 2), (3, 2), (4, 2), (5, 2), (6, 2), (7, 2), (8, 2), (9, 2), (10, 2), (11, 2), (12, 2), (13, 2), (14, 2), (15, 2), (16, 2), (17, 2), (18, 2), (19, 2), (20, 2), (21, 1), (22, 2)] (by kernel_rfl) ?_
        simp -dsimp only [↓reduceIte, go_sem, t0, t2, t7, t9]
        refine nth_get hx1 ?_
        simp -dsimp only [↓reduceIte, go_sem, t0, t2, t7, t9, lineV]
        refine nth_get hx1 ?_
        simp -dsimp only [↓reduceIte, go_sem, t0, t2, t7, t9, lineV]
        refine nth_get hx1 ?_
        simp -dsimp only [↓reduceIte, go_sem, t0, t2, t7, t9, lineV]
        refine nth_get hx1 ?_
        simp -dsimp only [↓reduceIte, go_sem, t0, t2, t7, t9, lineV]
        refine learn_c hok0 hn8 hgood fun s1 hs1 => ?_
        have hjk : σ.objs.length < s0.objs.length := (List.getElem?_eq_some_iff.1 hok0).1
        have hx1' : Ext σ s1 := (hx0.set (Nat.le_refl _)).trans hs1
        have hok1 := objs_known_ext (j := σ.objs.length) (o := .cells (kV n m (learned n L x))) (by simp [AST.set, hjk]) hs1
        refine later_intro ⟨keeps_nil, ?_⟩
        have fl := learned_long (n := n) (l := L) (x := x)
        have fc := cut_grows (m := m) (x := x) hgood
        have fs := seen_grows (m := m) (x := x) hgood hmn
        have fw := fun j : Int => learned_word (x := x) (i := j) hgood
        have fb := learned_bad (n := n) (l := L) (x := x)
        generalize learned (n : Int) L x = L' at *
        simp -dsimp only [↓reduceIte, go_sem, t0, t2, t7, t9]
        refine longest_c hok1 ?_
        simp -dsimp only [↓reduceIte, go_sem, t0, t2, t7, t9]
        rw [zero30]
        refine ⟨zeroOf30, later_intro ?_⟩
        simp -dsimp only [↓reduceIte, go_sem, t0, t2, t7, t9]
        have hok2 := objs_known_app hok1 [.cells (.dig (longest L').tag)]
        have hx2 : Ext σ (s1.app [.cells (.dig (longest L').tag)]) := hx1'.trans (Ext.app _ _)
        generalize s1.app [.cells (.dig (longest L').tag)] = s2 at hok2 hx2
        refine stable_c hok2 hn8 ?_
        obtain ⟨tkt, htt⟩ := slS_tk (f := AV.int .i64) (l := stable n m L')
        rw [htt]
        have hsl : ∀ L, (stable n m L).length = n := fun L => by simp [stable]
        simp -dsimp only [↓reduceIte, go_sem, t0, t2, t7, t9]
        refine arr_intro fun _ => ?_
        simp only [List.length_map, hsl]
        simp -dsimp only [↓reduceIte, go_sem, t0, t2, t7, t9]
        refine arr_intro fun _ => ?_
        simp only [List.length_map, hsl]
        simp -dsimp only [↓reduceIte, go_sem, t0, t2, t7, t9]
        refine Goes_c ?_
        rw [show goes (longest L').view (longest L).view = true by simp only [goes, decide_eq_true_eq]; exact fl]
        simp -dsimp only [↓reduceIte, go_sem, t0, t2, t7, t9]
        refine cut_c hok2 (by omega) hn8 ?_
        simp -dsimp only [↓reduceIte, go_sem, t0, t2, t7, t9]
        rw [show decide (minL (stable n m L') < minL (stable n m L)) = false by simp; omega]
        simp -dsimp only [↓reduceIte, go_sem, t0, t2, t7, t9]
        refine seen_c hok2 hn2 hmn hn8 ?_
        simp -dsimp only [↓reduceIte, go_sem, t0, t2, t7, t9]
        rw [show decide (minL (seenL n m L') < minL (seenL n m L)) = false by simp; omega]
        simp -dsimp only [↓reduceIte, go_sem, t0, t2, t7, t9]
        refine guardV_split (fun hE => ?_) (fun hE => ?_) <;> (try rw [hE])
        · have hE : learnE n L x ≠ 0 := by simpa using hE
          have hLL := fb hE
          subst hLL
          simp -dsimp only [↓reduceIte, go_sem, t0, t2, t7, t9]
          refine ints_c ?_
          rw [decide_eq_true rfl]
          simp -dsimp only [↓reduceIte, go_sem, t0, t2, t7, t9]
          refine awp_rounds (fun (j : Nat) τ s' => s' = s2 ∧ j ≤ n ∧ τ 0 = .int .i64 n ∧ τ 2 = .slice tkf ((fewL l).map lineV) ∧ τ 7 = .ptr (some (σ.objs.length, [])) ∧ τ 9 = .int .i64 i ∧ τ 13 = .slice tks ((stable n m L').map (AV.int .i64)) ∧ τ 20 = .slice tkt ((stable n m L').map (AV.int .i64)) ∧ τ 21 = .int .i64 j) (fun j => n - j) 0 ?_ ?_
          · refine ⟨rfl, by omega, ?_, ?_, ?_, ?_, ?_, ?_, ?_⟩ <;> (try simp only [go_sem, t0, t2, t7, t9]) <;> rfl
          · rintro j τ' s' ⟨rfl, hj, u0, u2, u7, u9, u13, u20, u21⟩
            simp -dsimp only [↓reduceIte, go_sem, u0, u2, u7, u9, u13, u20, u21]
            refine boolW_split (fun hbj => ?_) (fun hbj => ?_)
            · have hbj : j < n := by simp at hbj; omega
              have e1 : (stable n m L')[j]? = some ((cnt m (word L' j) : Nat) : Int) := by rw [stable, List.getElem?_map, List.getElem?_range hbj]; rfl
              have e2 : (stable n m L')[j]? = some ((cnt m (word L' j) : Nat) : Int) := by rw [stable, List.getElem?_map, List.getElem?_range hbj]; rfl
              have e3 := cnt_grows (c := m) (fw j)
              simp -dsimp only [↓reduceIte, go_sem, u0, u2, u7, u9, u13, u20, u21]
              refine awp_drawS (id := 18) [0, 1, 2, 3, 4, 5, 6, 7, 8] (by kernel_rfl) ?_
              simp -dsimp only [↓reduceIte, go_sem, u0, u2, u7, u9, u13, u20, u21]
              refine nth_get e2 ?_
              simp -dsimp only [↓reduceIte, go_sem, u0, u2, u7, u9, u13, u20, u21]
              refine nth_get e1 ?_
              simp -dsimp only [↓reduceIte, go_sem, u0, u2, u7, u9, u13, u20, u21]
              rw [decide_eq_false (show ¬ ((cnt m (word L' j) : Nat) : Int) < ((cnt m (word L' j) : Nat) : Int) by omega)]
              simp -dsimp only [↓reduceIte, go_sem, u0, u2, u7, u9, u13, u20, u21]
              rw [wrap_i64 (by omega) (by omega)]
              refine later_intro ⟨j + 1, by omega, rfl, by omega, ?_, ?_, ?_, ?_, ?_, ?_, ?_⟩ <;> (try simp only [go_sem, u0, u2, u7, u9, u13, u20, u21]) <;> rfl
            · simp -dsimp only [↓reduceIte, go_sem, u0, u2, u7, u9, u13, u20, u21]
              rw [wrap_i64 (by omega) (by omega)]
              refine later_intro ⟨i + 1, by omega, by omega, hx2, by rw [htake]; exact hok2, ?_, ?_, ?_, ?_⟩ <;> (try simp only [go_sem, u0, u2, u7, u9, u13, u20, u21]) <;> rfl
        · simp -dsimp only [↓reduceIte, go_sem, t0, t2, t7, t9]
          refine awp_rounds (fun (j : Nat) τ s' => s' = s2 ∧ j ≤ n ∧ τ 0 = .int .i64 n ∧ τ 2 = .slice tkf ((fewL l).map lineV) ∧ τ 7 = .ptr (some (σ.objs.length, [])) ∧ τ 9 = .int .i64 i ∧ τ 13 = .slice tks ((stable n m L).map (AV.int .i64)) ∧ τ 20 = .slice tkt ((stable n m L').map (AV.int .i64)) ∧ τ 21 = .int .i64 j) (fun j => n - j) 0 ?_ ?_
          · refine ⟨rfl, by omega, ?_, ?_, ?_, ?_, ?_, ?_, ?_⟩ <;> (try simp only [go_sem, t0, t2, t7, t9]) <;> rfl
          · rintro j τ' s' ⟨rfl, hj, u0, u2, u7, u9, u13, u20, u21⟩
            simp -dsimp only [↓reduceIte, go_sem, u0, u2, u7, u9, u13, u20, u21]
            refine boolW_split (fun hbj => ?_) (fun hbj => ?_)
            · have hbj : j < n := by simp at hbj; omega
              have e1 : (stable n m L)[j]? = some ((cnt m (word L j) : Nat) : Int) := by rw [stable, List.getElem?_map, List.getElem?_range hbj]; rfl
              have e2 : (stable n m L')[j]? = some ((cnt m (word L' j) : Nat) : Int) := by rw [stable, List.getElem?_map, List.getElem?_range hbj]; rfl
              have e3 := cnt_grows (c := m) (fw j)
              simp -dsimp only [↓reduceIte, go_sem, u0, u2, u7, u9, u13, u20, u21]
              refine awp_drawS (id := 18) [0, 1, 2, 3, 4, 5, 6, 7, 8] (by kernel_rfl) ?_
              simp -dsimp only [↓reduceIte, go_sem, u0, u2, u7, u9, u13, u20, u21]
              refine nth_get e2 ?_
              simp -dsimp only [↓reduceIte, go_sem, u0, u2, u7, u9, u13, u20, u21]
              refine nth_get e1 ?_
              simp -dsimp only [↓reduceIte, go_sem, u0, u2, u7, u9, u13, u20, u21]
              rw [decide_eq_false (show ¬ ((cnt m (word L' j) : Nat) : Int) < ((cnt m (word L j) : Nat) : Int) by omega)]
              simp -dsimp only [↓reduceIte, go_sem, u0, u2, u7, u9, u13, u20, u21]
              rw [wrap_i64 (by omega) (by omega)]
              refine later_intro ⟨j + 1, by omega, rfl, by omega, ?_, ?_, ?_, ?_, ?_, ?_, ?_⟩ <;> (try simp only [go_sem, u0, u2, u7, u9, u13, u20, u21]) <;> rfl
            · simp -dsimp only [↓reduceIte, go_sem, u0, u2, u7, u9, u13, u20, u21]
              rw [wrap_i64 (by omega) (by omega)]
              refine later_intro ⟨i + 1, by omega, by omega, hx2, by rw [htake]; exact hok2, ?_, ?_, ?_, ?_⟩ <;> (try simp only [go_sem, u0, u2, u7, u9, u13, u20, u21]) <;> rfl
      · simp -dsimp only [↓reduceIte, go_sem, t0, t2, t7, t9]
        refine awake_c ?_
        simp -dsimp only [↓reduceIte, go_sem, t0, t2, t7, t9]
        exact ⟨hx, rfl, hK⟩
end Go.Aff.L16

/- Layer 16, walked: the order plays no part. -/
namespace Go.Aff.L16
open Go.Proofs Go.Aff Go.Aff.L09 Classical
set_option linter.unusedVariables false
set_option linter.unusedSimpArgs false
attribute [local go_sem] push_app app_app length_app cellAt_app cellAt_app0 set_app set_app0 objs_app objs_app0 List.cons_append List.nil_append List.length_cons List.length_nil List.getElem?_cons_zero List.getElem?_cons_succ List.set_cons_zero List.set_cons_succ
attribute [local go_sem] Try.underlying3 fits4 Try.underlying4 fits5 Try.underlying5 Try.underlying9 fits22 Try.underlying22 fits23 Try.underlying23 fits24 Try.underlying24 fits30 Try.underlying30 fits33 Try.underlying33 fits38 p38_0 p38_1 p38_2 p38_3 Try.underlying38 fits42 Try.underlying42 fits54 p54_0 p54_1 p54_2 Try.underlying54 fits57 p57_0 p57_1 Try.underlying57 fits58 Try.underlying58 fits60 p60_0 p60_1 p60_2 p60_3 p60_4 p60_5 Try.underlying60 fits66 Try.underlying66 fits69 Try.underlying69 fits47 p47_0 p47_1 p47_2 p47_3 Try.underlying47
attribute [local go_sem] fits3 fits9 sizes_cls
attribute [-go_sem] cellAt_new

attribute [local go_sem] line_size line_known line_shape

theorem wrap_u8_nat (o : Int) : ∃ k : Nat, IntKind.u8.wrap o = k ∧ k < 256 := by
  have h : IntKind.u8.wrap o = o % 256 := rfl
  refine ⟨(o % 256).toNat, by rw [h]; omega, by omega⟩

theorem knownOrder_c {c me o : Int} {l : List Line} {tk : Tk} {σ : AST} {K : AV → AST → Prop} (hK : K (.bool true) σ) : TCalls Try.prog 7 [fourV c me tk l o] σ K := by
  refine TCalls.drop ?_
  unfold fourV
  refine tcalls_walk Try.f7 _ [.tmp 2] Try.func7 rfl rfl rfl mixed (Nat.le_of_ble_eq_true rfl) rfl fun hlen => ?_
  obtain ⟨q, hq, hq2⟩ := wrap_u8_nat o
  simp -dsimp only [↓reduceIte, go_sem]
  refine awp_drawS (id := 1) [0, 1, 2, 3, 4, 5, 6, 7, 8, 9, 10, 11, 12] (by kernel_rfl) ?_
  simp -dsimp only [↓reduceIte, go_sem]
  rw [hq]
  refine made_c (l := l) (fun h => ?_) (fun n m hn hm hn2 hn8 hmn s jk jx tkx hx hjj hjk hjx hok hox => ?_)
  · simp -dsimp only [↓reduceIte, go_sem]
    refine awake_c ?_
    simp -dsimp only [↓reduceIte, go_sem]
    refine awake_c ?_
    simp -dsimp only [↓reduceIte, go_sem]
    exact ⟨Ext.app _ _, rfl, hK⟩
  · have hx0 : Ext σ s := (Ext.app _ _).trans hx
    have hgood := good_all (n := (n : Int)) (F := fewL l)
    have hLl : (allL (n : Int) (fewL l)).length ≤ 25 := Nat.le_trans allL_len fewL_len
    generalize allL (n : Int) (fewL l) = L at hok hox hgood hLl
    subst hn hm
    simp -dsimp only [↓reduceIte, go_sem]
    refine awake_c ?_
    simp -dsimp only [↓reduceIte, go_sem]
    refine New_c (fun h => absurd (by omega) h) (fun n' m' hn' hm' _ _ _ => ?_)
    obtain rfl : n' = n := by omega
    obtain rfl : m' = m := by omega
    have hjx1 : jx < s.objs.length := (List.getElem?_eq_some_iff.1 hox).1
    have hjk1 : jk < s.objs.length := (List.getElem?_eq_some_iff.1 hok).1
    have hsl : σ.objs.length ≤ s.objs.length := by
      obtain ⟨O, T, rfl⟩ := hx0; simp
    have hok0 := objs_known_app hok [.cells (kV n' m' [])]
    have hox0 := objs_known_app hox [.cells (kV n' m' [])]
    have hoy0 : (s.app [.cells (kV n' m' [])]).objs[s.objs.length]? = some (.cells (kV n' m' [])) := objs_app0
    have hx1 : Ext σ (s.app [.cells (kV n' m' [])]) := hx0.trans (Ext.app _ _)
    generalize hjy : s.objs.length = jy at hoy0 hjx1 hjk1 hsl ⊢
    generalize s.app [.cells (kV n' m' [])] = s1 at hok0 hox0 hoy0 hx1 ⊢
    have hc := cellAt_known hox0
    unfold xV at hc
    simp -dsimp only [↓reduceIte, go_sem, hc]
    refine arr_intro fun _ => ?_
    simp only [List.length_map]
    simp -dsimp only [↓reduceIte, go_sem]
    refine awp_rounds (fun (i : Nat) τ s' => i ≤ L.length ∧ Ext σ s' ∧ s'.objs[jk]? = some (.cells (kV n' m' L)) ∧ s'.objs[jx]? = some (.cells (xV n' m' tkx L)) ∧ s'.objs[jy]? = some (.cells (kV n' m' (rotTo L q i))) ∧ Good (n' : Int) (rotTo L q i) ∧
      τ 3 = .int .i64 n' ∧ τ 6 = .int .u8 q ∧ τ 7 = .ptr (some (jk, [])) ∧ τ 8 = .ptr (some (jx, [])) ∧ τ 10 = .ptr (some (jy, [])) ∧ τ 12 = .int .i64 L.length ∧ τ 13 = .int .i64 i) (fun i => L.length - i) 0 ?_ ?_
    · refine ⟨by omega, hx1, hok0, hox0, hoy0, good_nil, ?_, ?_, ?_, ?_, ?_, ?_, ?_⟩ <;> (try simp only [go_sem]) <;> rfl
    · rintro i τ s' ⟨hi, hxs, hk, hx', hy, hgr, t3, t6, t7, t8, t10, t12, t13⟩
      simp -dsimp only [↓reduceIte, go_sem, t3, t6, t7, t8, t10, t12, t13]
      refine boolW_split (fun hb => ?_) (fun hb => ?_)
      · have hb : i < L.length := by simp at hb; omega
        have hmod : (i + q) % L.length < L.length := Nat.mod_lt _ (by omega)
        obtain ⟨z, hz⟩ := get_lt hmod
        have hzm : z ∈ L := List.mem_iff_getElem?.2 ⟨_, hz⟩
        have hcx := cellAt_known hx'
        unfold xV at hcx
        have hjs : jx < s'.objs.length := (List.getElem?_eq_some_iff.1 hx').1
        refine awp_drawF (id := 10) [(0, 0), (1, 0), (2, 0), (3, 0), (4, 0), (5, 0), (6, 0), (7, 0), (8, 0), (9, 0), (10, 0), (11, 0), (12, 1), (13, 1)] (by kernel_rfl) ?_
        simp -dsimp only [↓reduceIte, go_sem, t3, t6, t7, t8, t10, t12, t13, hcx]
        rw [wrap_i64 (by omega) (by omega), wrap_i64 (by omega) (by omega)]
        refine ⟨by omega, later_intro ?_⟩
        rw [Int.tmod_eq_emod_of_nonneg (by omega), show ((i : Int) + (q : Int)) % (L.length : Int) = (((i + q) % L.length : Nat) : Int) by rw [Int.natCast_emod]; rfl]
        simp -dsimp only [↓reduceIte, go_sem, t3, t6, t7, t8, t10, t12, t13, hcx]
        refine nth_get hz ?_
        simp -dsimp only [↓reduceIte, go_sem, t3, t6, t7, t8, t10, t12, t13, hcx]
        rw [zero38]
        refine ⟨zeroOf38, later_intro ⟨keeps_push (by intro k hk; simp at hk; omega), ?_⟩⟩
        simp -dsimp only [↓reduceIte, go_sem, t3, t6, t7, t8, t10, t12, t13, hcx]
        refine later_intro ⟨keeps_app (by intro k hk; simp at hk; omega), ?_⟩
        simp -dsimp only [↓reduceIte, go_sem, t3, t6, t7, t8, t10, t12, t13, hcx, lineV]
        have hrs := rotTo_succ hz
        have hl0 : learnE n' (rotTo L q i) z = 0 := sub_learn hgood (fun x hx => rotTo_sub (by omega) hx) hzm
        have hl1 : learned n' (rotTo L q i) z = rotTo L q (i + 1) := by rw [learned, if_pos hl0, hrs]
        have hk1 := objs_known_app hk [.cells (lineV z)]
        have hx1' := objs_known_app hx' [.cells (lineV z)]
        have hy1 := objs_known_app hy [.cells (lineV z)]
        refine learn_c hy1 hn8 hgr fun s3 hs3 => ?_
        rw [hl1] at hs3
        rw [hl0]
        have hjys : jy < s'.objs.length := (List.getElem?_eq_some_iff.1 hy).1
        have hne : ∀ (jz : Nat) (o o' : AObj), jz ≠ jy → (s'.app [.cells (lineV z)]).objs[jz]? = some o → ((s'.app [.cells (lineV z)]).set jy o').objs[jz]? = some o := fun jz o o' hne h => by
          simp only [AST.set]; rw [List.getElem?_set_ne (by omega)]; exact h
        have hk3 := objs_known_ext (hne _ _ _ (by omega) hk1) hs3
        have hx3 := objs_known_ext (hne _ _ _ (by omega) hx1') hs3
        have hy3 := objs_known_ext (j := jy) (o := .cells (kV n' m' (rotTo L q (i + 1)))) (by simp only [AST.set]; rw [List.getElem?_set_self (by simp [AST.app]; omega)]) hs3
        have hxs3 : Ext σ s3 := ((hxs.trans (Ext.app _ _)).set (by omega)).trans hs3
        have hg3 : Good (n' : Int) (rotTo L q (i + 1)) := by rw [← hl1]; exact good_learned hgr
        simp -dsimp only [↓reduceIte, go_sem, t3, t6, t7, t8, t10, t12, t13]
        refine later_intro ?_
        simp -dsimp only [↓reduceIte, go_sem, t3, t6, t7, t8, t10, t12, t13]
        rw [wrap_i64 (by omega) (by omega)]
        exact ⟨i + 1, by omega, by omega, hxs3, hk3, hx3, hy3, hg3, rfl⟩
      · have hb : i = L.length := by simp at hb; omega
        subst hb
        have hmem := rotTo_all (L := L) (k := q)
        generalize hR : rotTo L q L.length = R at hy hgr hmem
        have ew : ∀ i : Int, word R i = word L i := fun i => same_word hgood hmem
        have eo : ∀ i : Int, own R i = own L i := fun i => same_own hgood hmem
        have el : (longest R).view = (longest L).view := same_longest hgood hmem
        have es : stable n' m' R = stable n' m' L := by unfold stable; simp only [ew]
        have en : seenL n' m' R = seenL n' m' L := by unfold seenL owns; simp only [eo]
        simp -dsimp only [↓reduceIte, go_sem, t3, t6, t7, t8, t10, t12, t13]
        refine awp_rounds (fun (i : Nat) τ s'' => s'' = s' ∧ i ≤ n' ∧ τ 3 = .int .i64 n' ∧ τ 7 = .ptr (some (jk, [])) ∧ τ 10 = .ptr (some (jy, [])) ∧ τ 15 = .int .i64 i) (fun i => n' - i) 0 ?_ ?_
        · refine ⟨rfl, by omega, ?_, ?_, ?_, ?_⟩ <;> (try simp only [go_sem, t3, t6, t7, t8, t10, t12, t13]) <;> rfl
        · rintro i τ' s'' ⟨rfl, hi2, v3, v7, v10, v15⟩
          simp -dsimp only [↓reduceIte, go_sem, v3, v7, v10, v15]
          refine boolW_split (fun hb2 => ?_) (fun hb2 => ?_)
          · have hb2 : i < n' := by simp at hb2; omega
            simp -dsimp only [↓reduceIte, go_sem, v3, v7, v10, v15]
            refine word_c hy hn8 ?_
            rw [word_g hgr]
            simp -dsimp only [↓reduceIte, go_sem, v3, v7, v10, v15]
            refine word_c hk hn8 ?_
            rw [word_g hgood, ew]
            simp -dsimp only [↓reduceIte, go_sem, v3, v7, v10, v15]
            refine own_c hy hn8 ?_
            rw [own_g hgr]
            simp -dsimp only [↓reduceIte, go_sem, v3, v7, v10, v15]
            refine own_c hk hn8 ?_
            rw [own_g hgood, eo]
            simp -dsimp only [↓reduceIte, go_sem, v3, v7, v10, v15]
            refine later_intro ?_
            simp -dsimp only [↓reduceIte, go_sem, v3, v7, v10, v15]
            rw [wrap_i64 (by omega) (by omega)]
            exact ⟨i + 1, by omega, by omega, rfl⟩
          · simp -dsimp only [↓reduceIte, go_sem, v3, v7, v10, v15]
            refine longest_c hk ?_
            simp -dsimp only [↓reduceIte, go_sem, v3, v7, v10, v15]
            rw [zero30]
            refine ⟨zeroOf30, later_intro ?_⟩
            simp -dsimp only [↓reduceIte, go_sem, v3, v7, v10, v15]
            have hk1 := objs_known_app hk
            have hy1 := objs_known_app hy
            refine longest_c (hy1 _) ?_
            simp -dsimp only [↓reduceIte, go_sem, v3, v7, v10, v15]
            rw [zero30]
            refine ⟨zeroOf30, later_intro ?_⟩
            simp -dsimp only [↓reduceIte, go_sem, v3, v7, v10, v15]
            rw [el]
            simp -dsimp only [↓reduceIte, go_sem, v3, v7, v10, v15]
            refine stable_c (hk1 _) hn8 ?_
            obtain ⟨tks, hts⟩ := slS_tk (f := AV.int .i64) (l := stable n' m' L)
            rw [hts]
            simp -dsimp only [↓reduceIte, go_sem, v3, v7, v10, v15]
            refine stable_c (hy1 _) hn8 ?_
            rw [es, hts]
            simp -dsimp only [↓reduceIte, go_sem, v3, v7, v10, v15]
            refine ints_c ?_
            rw [decide_eq_true rfl]
            simp -dsimp only [↓reduceIte, go_sem, v3, v7, v10, v15]
            refine cut_c (hk1 _) (by omega) hn8 ?_
            simp -dsimp only [↓reduceIte, go_sem, v3, v7, v10, v15]
            refine cut_c (hy1 _) (by omega) hn8 ?_
            rw [es]
            simp -dsimp only [↓reduceIte, go_sem, v3, v7, v10, v15]
            refine seen_c (hk1 _) (by omega) (by omega) hn8 ?_
            simp -dsimp only [↓reduceIte, go_sem, v3, v7, v10, v15]
            refine seen_c (hy1 _) (by omega) (by omega) hn8 ?_
            rw [en]
            simp -dsimp only [↓reduceIte, go_sem, v3, v7, v10, v15]
            exact ⟨hxs.trans (Ext.app _ _), rfl, hK⟩
end Go.Aff.L16

/- What is known of arguments' sizes. -/
namespace Go.Aff
set_option linter.unusedVariables false
set_option linter.unusedSimpArgs false
open Go.RowKit Go.ChangeShapes Go.WideShapes Go.ChangeAt Go.ChangeMaps

variable {H : Type} {enc : TypeId × Value → H} {P : Program} {W : World} {g : G}

mutual
/-- No slice within is longer than memory. -/
def WtT (P : Program) : Nat → TypeId → AV → Prop
  | 0, _, _ => True
  | n + 1, t, v => match P.underlying t with
    | some (.slice e) => ∀ tk xs, v = .slice tk xs → xs.length * P.bytesOf e ≤ 140737488351232 ∧ ∀ x ∈ xs, WtT P n e x
    | some (.struct fs) => ∀ ps, v = .agg ps → WtTs P n fs.toList ps
    | _ => True
def WtTs (P : Program) : Nat → List Field → List AV → Prop
  | 0, _, _ => True
  | n + 1, f :: fs, p :: ps => WtT P n f.type p ∧ WtTs P n fs ps
  | _, _, _ => True
end
def WtAll (P : Program) (n : Nat) : List TypeId → List AV → Prop
  | t :: ts, v :: vs => WtT P n t v ∧ WtAll P n ts vs
  | _, _ => True

theorem weightsAll_mem {e : TypeId} : ∀ {l : List (DataW H)} {d : DataW H}, d ∈ l → ∀ x ∈ d.weights P e, x ∈ DataW.weightsAll P e l
  | [], d, h => by simp at h
  | a :: r, d, h => fun x hx => by
    simp only [DataW.weightsAll, List.mem_append]
    rcases List.mem_cons.1 h with rfl | h
    · exact .inl hx
    · exact .inr (weightsAll_mem h x hx)

mutual
theorem wt_of : ∀ (m : Nat) (t : TypeId) (d : DataW H), (∀ x ∈ d.weights P t, x ≤ reachBytes) → WtT P m t (absD d)
  | 0, t, d, h => trivial
  | m + 1, t, d, h => by
    unfold WtT
    split
    · rename_i e hu
      intro tk xs hv
      cases d with
      | slice elems spare =>
        simp only [absD, AV.slice.injEq] at hv
        obtain ⟨rfl, rfl⟩ := hv
        simp only [DataW.weights, hu] at h
        have h1 := h _ (List.mem_cons_self ..)
        rw [absDs_map]
        refine ⟨?_, fun x hx => ?_⟩
        · rw [List.length_map]
          have : reachBytes = 140737488351232 := by decide
          rw [this] at h1
          exact Nat.le_trans (Nat.mul_le_mul_right _ (Nat.le_add_right _ _)) h1
        · obtain ⟨d, hd, rfl⟩ := List.mem_map.1 hx
          exact wt_of m e d fun y hy => h y (List.mem_cons_of_mem _ (List.mem_append_left _ (weightsAll_mem hd y hy)))
      | nil =>
        simp only [absD, AV.slice.injEq] at hv
        obtain ⟨rfl, rfl⟩ := hv
        simp
      | lit l => cases l <;> simp [absD] at hv
      | agg ps =>
        simp only [absD] at hv
        rcases aggD_cases (absDs ps) with ⟨d, h1⟩ | h1 <;> rw [h1] at hv <;> cases hv
      | ptr d => simp [absD] at hv
      | iface n d => simp [absD] at hv
      | map es => simp [absD] at hv
      | held x => simp [absD] at hv
    · rename_i fs hu
      intro ps hv
      cases d with
      | agg parts =>
        simp only [absD] at hv
        have hv : absDs parts = ps := by
          rcases aggD_cases (absDs parts) with ⟨d, h1⟩ | h1
          · rw [h1] at hv; cases hv
          · rw [h1] at hv; simpa using hv
        subst hv
        simp only [DataW.weights, hu] at h
        exact wts_of m fs.toList parts h
      | slice elems spare => simp [absD] at hv
      | nil => simp [absD] at hv
      | lit l => cases l <;> simp [absD] at hv
      | ptr d => simp [absD] at hv
      | iface n d => simp [absD] at hv
      | map es => simp [absD] at hv
      | held x => simp [absD] at hv
    · trivial
theorem wts_of : ∀ (m : Nat) (fs : List Field) (ds : List (DataW H)), (∀ x ∈ DataW.weightsEach P (fs.map (·.type)) ds, x ≤ reachBytes) → WtTs P m fs (absDs ds)
  | 0, fs, ds, h => by unfold WtTs; trivial
  | m + 1, [], ds, h => by unfold WtTs; trivial
  | m + 1, f :: fs, [], h => by simp only [absDs]; unfold WtTs; trivial
  | m + 1, f :: fs, d :: ds, h => by
    simp only [absDs, WtTs]
    simp only [List.map_cons, DataW.weightsEach, List.mem_append] at h
    exact ⟨wt_of m f.type d fun x hx => h x (.inl hx), wts_of m fs ds fun x hx => h x (.inr hx)⟩
end
theorem wtAll_of {n : Nat} : ∀ (ts : List TypeId) (ds : List (DataW H)), (∀ x ∈ DataW.weightsEach P ts ds, x ≤ reachBytes) → WtAll P n ts (ds.map absD)
  | [], ds, h => by cases ds <;> trivial
  | t :: ts, [], h => trivial
  | t :: ts, d :: ds, h => by
    simp only [DataW.weightsEach, List.mem_append] at h
    exact ⟨wt_of n t d fun x hx => h x (.inl hx), wtAll_of ts ds fun x hx => h x (.inr hx)⟩

/-- As lift_law, where the law may know that arguments fit into memory. -/
theorem lift_law_w {C : Checked} {os : Os} {f : FuncId} {fn : Func} {s : ChangeSpec} {conds : List PathCond} {tb : TypeId} (own : ownKnob C.prog.godebug = none) (started : os.Started) (noInit : C.prog.inits.idxOf? f = none) (hfn : C.prog.funcs[f]? = some fn)
    (witness : ∃ (w : World) (tape : Tape) (i : Input), w.os = os ∧ (w.forCall tape i).Shaped C.prog ∧ i.vars = [] ∧ Input.okWide C.prog (w.forCall tape i) .any w.heap.size f i ∧
      s.pre6 enc C.prog fn conds false (w.forCall tape i).memory i.args ∧ Assume.holds {} C.prog (lone (Frame.enter C.prog f i.args .normal) [] (w.forCall tape i)))
    (hvars : s.vars = []) (hs : ∀ ds : List (DataW H), ds.length = fn.params.toList.length → s.fn H ds = { results := [.lit (.bool true)], args := ds }) (hl : laidOutB C.prog = true)
    (hp : (fn.params.toList.all fun t => plainT C.prog 12 t && shOk C.prog 12 t) = true) (hr : (fn.params.toList.all fun t => C.prog.readableRec t && decide (t < C.prog.types.size)) = true)
    (hres : fn.resultTypes = #[tb]) (hb : C.prog.underlying tb = some .bool)
    (law : ∀ vs, ShAll C.prog 12 fn.params.toList vs → WtAll C.prog 12 fn.params.toList vs → TCalls C.prog f vs ⟨[], []⟩ fun v _ => v = .bool true) :
    ReturnsInHanded {} C os f .any (s.pre6 enc C.prog fn conds false) (s.post enc C.prog fn false true false false) := by
  refine returnsInHanded_of_change_sized own started noInit hfn witness ?_
  intro W base args ds gs before hval hW _ hwt _
  obtain ⟨p, q, hA, hV, rfl, hfz, hnd⟩ := id hW
  rw [hvars] at hV
  obtain ⟨rfl, rfl⟩ := trodVars_nil hV
  have hvt : s.plain.varTypes C.prog = [] := by simp [ChangeSpec.plain, hvars, DataSpec.varTypes]
  rw [hvt, List.append_nil, List.append_nil, List.all_eq_true] at hwt
  have hwt' : WtAll C.prog 12 fn.params.toList (ds.map absD) := wtAll_of _ _ fun x hx => by simpa using hwt x hx
  let g0 : G := ⟨W.heap.size, [], fun _ => none, []⟩
  have hrel := args_rel (g := g0) (enc := enc) (P := C.prog) (W := W) (base := base) (Nat.le_refl _) fn.params.toList args.toList ds p hp hA (fun j t v ht hv => hval j t v (by simpa using ht) (by simpa using hv))
  have hI : Inv g0 ⟨[], []⟩ W := by
    refine ⟨Nat.le_refl _, rfl, ?_, ?_, ?_, rfl, ?_, ?_⟩
    · intro i o h; simp at h
    · intro i j o o' b sh sh' h; simp at h
    · intro b L h; cases h
    · intro t e h; simp [g0] at h
    · intro t u e e' b o o' h; simp [g0] at h
  refine ((law _ hrel.2 hwt').2 g0 W args hI hrel.1).mono ?_
  rintro e W' ⟨x, g', v, σ', he, hE, hI', hv, rfl⟩
  have hx : x = .bool true := relV_bool hv
  subst hx
  subst he
  have bel : Below W.heap.size W W' := ⟨hE.os, hE.tape, hE.output, hE.size, fun k hk => hE.old k hk⟩
  have hlen := trodAll_len _ _ _ _ hA
  refine ⟨_, rfl, ds, [], p ++ [], [], p, [], hW, ?_, ?_, ?_, bel.frame _, fun h => by cases h⟩
  · rw [List.append_nil, hs ds hlen, hres]
    exact trodAll_mk1 (shut_bool hb _)
  · rw [List.append_nil, hs ds hlen]
    exact args_stay hl bel _ _ _ _ hr hA
  · rw [List.append_nil, hs ds hlen, hvars]
    rfl
theorem wt_slice {n : Nat} {t e : TypeId} {tk : Tk} {xs : List AV} (hu : P.underlying t = some (.slice e)) (h : WtT P (n + 1) t (.slice tk xs)) : xs.length * P.bytesOf e ≤ 140737488351232 ∧ ∀ x ∈ xs, WtT P n e x := by
  unfold WtT at h; rw [hu] at h; exact h tk xs rfl
theorem wt_struct {n : Nat} {t : TypeId} {fs : Array Field} {ps : List AV} (hu : P.underlying t = some (.struct fs)) (h : WtT P (n + 1) t (.agg ps)) : WtTs P n fs.toList ps := by
  unfold WtT at h; rw [hu] at h; exact h ps rfl
theorem wtTs_cons {n : Nat} {f : Field} {fs : List Field} {p : AV} {ps : List AV} (h : WtTs P (n + 1) (f :: fs) (p :: ps)) : WtT P n f.type p ∧ WtTs P n fs ps := by
  unfold WtTs at h; exact h
end Go.Aff

/- Layer 16: what arguments' shapes say. -/
namespace Go.Aff.L16
open Go.Proofs Go.Aff Go.Aff.L09 Classical
set_option linter.unusedVariables false

theorem sh_line {n : Nat} {v : AV} (h : ShT Try.prog (n + 6) 38 v) : ∃ x : Line, v = lineV x ∧ True := by
  obtain ⟨ps, rfl, hps⟩ := sh_struct (n := n + 5) Try.underlying38 h
  obtain ⟨p0, r, rfl, h0, hps⟩ := shTs_cons (n := n + 4) hps
  obtain ⟨p1, r, rfl, h1, hps⟩ := shTs_cons (n := n + 3) hps
  obtain ⟨p2, r, rfl, h2, hps⟩ := shTs_cons (n := n + 2) hps
  obtain ⟨p3, r, rfl, h3, hps⟩ := shTs_cons (n := n + 1) hps
  obtain rfl := shTs_nil hps
  obtain ⟨a, rfl, _, _⟩ := sh_int (n := n + 3) (t := 3) Try.underlying3 h0
  obtain ⟨b, rfl, _, _⟩ := sh_int (n := n + 2) (t := 3) Try.underlying3 h1
  obtain ⟨s, rfl⟩ := sh_str (n := n + 1) (t := 9) Try.underlying9 h2
  obtain ⟨d, rfl⟩ := sh_dig (n := n) (t := 30) Try.underlying30 h3
  exact ⟨⟨a, b, s, d⟩, rfl, trivial⟩
theorem sh_lines {n : Nat} {v : AV} (h : ShT Try.prog (n + 7) 22 v) : ∃ tk, ∃ l : List Line, v = .slice tk (l.map lineV) := by
  obtain ⟨tk, xs, rfl, e⟩ := sh_slice (n := n + 6) (t := 22) Try.underlying22 h
  obtain ⟨l, rfl, _⟩ := map_of (f := lineV) (p := fun _ => True) (fun x hx => sh_line (e x hx))
  exact ⟨tk, l, rfl⟩
theorem sh_i64 {n : Nat} {v : AV} (h : ShT Try.prog (n + 1) 3 v) : ∃ i, v = .int .i64 i := by
  obtain ⟨i, rfl, _⟩ := sh_int (n := n) (t := 3) Try.underlying3 h; exact ⟨i, rfl⟩
theorem sh_four {v : AV} (h : ShT Try.prog 12 47 v) : ∃ c me tk l o, v = fourV c me tk l o := by
  obtain ⟨ps, rfl, hps⟩ := sh_struct (n := 11) Try.underlying47 h
  obtain ⟨p0, r, rfl, h0, hps⟩ := shTs_cons (n := 10) hps
  obtain ⟨p1, r, rfl, h1, hps⟩ := shTs_cons (n := 9) hps
  obtain ⟨p2, r, rfl, h2, hps⟩ := shTs_cons (n := 8) hps
  obtain ⟨p3, r, rfl, h3, hps⟩ := shTs_cons (n := 7) hps
  obtain rfl := shTs_nil hps
  obtain ⟨c, rfl⟩ := sh_i64 (n := 9) h0
  obtain ⟨m, rfl⟩ := sh_i64 (n := 8) h1
  obtain ⟨tk, l, rfl⟩ := sh_lines (n := 1) h2
  obtain ⟨o, rfl⟩ := sh_i64 (n := 6) h3
  exact ⟨c, m, tk, l, o, rfl⟩
end Go.Aff.L16

