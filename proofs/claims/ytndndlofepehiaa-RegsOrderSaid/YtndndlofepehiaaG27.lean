import Derived.Test.YtndndlofepehiaaG26
import Derived.Test.YtndndlofepehiaaProg

set_option linter.unusedSimpArgs false
set_option linter.unusedVariables false

/- Layer 9, walked: the operations in order. -/
namespace Go.Aff.L09
open Go.Proofs Go.Aff
set_option linter.unusedVariables false
set_option maxRecDepth 20000
set_option linter.unusedSimpArgs false
theorem mixed : Try.prog.follows .mixedOrders = true := rfl
theorem agg3 : aggT Try.prog 3 = some false := by kernel_rfl
theorem cells3 : Try.prog.cellsOf 3 = 1 := by kernel_rfl
theorem agg5 : aggT Try.prog 5 = some false := by kernel_rfl
theorem cells5 : Try.prog.cellsOf 5 = 1 := by kernel_rfl
theorem agg9 : aggT Try.prog 9 = some false := by kernel_rfl
theorem cells9 : Try.prog.cellsOf 9 = 1 := by kernel_rfl
theorem fits3 {v : AV} : fits Try.prog 3 v = (v.isAgg = false ∧ v.size = 1) := fits_leaf agg3 cells3
theorem fits9 {v : AV} : fits Try.prog 9 v = (v.isAgg = false ∧ v.size = 1) := fits_leaf agg9 cells9
attribute [local go_sem] Try.underlying3 Try.underlying4 Try.underlying5 Try.underlying9 Try.underlying106 fits3 fits9

theorem zero42 : zeroA Try.prog 12 106 = .agg ((List.replicate 256 (0 : Int)).map (AV.int .i64)) := by kernel_rfl
theorem zeroOf42 : ZeroOf Try.prog 106 (zeroA Try.prog 12 106) := by
  rw [zero42]
  exact ⟨_, _, rfl, rfl, by kernel_rfl, rfl, by kernel_rfl⟩

theorem next_c {b : UInt8} {j : Nat} {xs : List Int} {x : Int} {σ : AST} {K : AV → AST → Prop} (hl : xs.length = 256) (ho : σ.objs[j]? = some (.cells (.agg (xs.map (AV.int .i64))))) (hx : xs[b.toNat]? = some x) (h0 : 0 ≤ x) (h1 : x < 9223372036854775807)
    (hK : K (.int .i64 (x + 1)) (σ.set j (.cells (.agg ((xs.set b.toNat (x + 1)).map (AV.int .i64)))))) : TCalls Try.prog 57 [.int .u8 b.toNat, .ptr (some (j, []))] σ K := by
  refine tcalls_walk Try.f57 _ [.tmp 3] Try.func57 rfl rfl rfl mixed (Nat.le_of_ble_eq_true rfl) rfl fun hlen => ?_
  simp -dsimp only [↓reduceIte, go_sem]
  have hj : j < σ.objs.length := (List.getElem?_eq_some_iff.1 ho).1
  have hb : b.toNat < 256 := b.toNat_lt
  have ho2 : (σ.set j (.cells (.agg ((xs.set b.toNat (x + 1)).map (AV.int .i64))))).objs[j]? = some (.cells (.agg ((xs.set b.toNat (x + 1)).map (AV.int .i64)))) := by simp [AST.set, hj]
  have hx2 : (xs.set b.toNat (x + 1))[b.toNat]? = some (x + 1) := by simp [hl, hb]
  refine indexAddr_ptr Try.underlying106 Try.underlying3 cells3 hl ho hx ?_
  simp -dsimp only [↓reduceIte, go_sem]
  rw [cellAt_int ho hx]
  simp -dsimp only [↓reduceIte, go_sem]
  rw [wrap_i64 (by omega) (by omega)]
  refine indexAddr_ptr Try.underlying106 Try.underlying3 cells3 hl ho hx ?_
  simp -dsimp only [↓reduceIte, go_sem]
  refine storeC_int ho hx (by simp only [go_sem]) ?_
  simp -dsimp only [↓reduceIte, go_sem]
  refine indexAddr_ptr Try.underlying106 Try.underlying3 cells3 (by simp [hl]) ho2 hx2 ?_
  simp -dsimp only [↓reduceIte, go_sem]
  rw [cellAt_int ho2 hx2]
  simp -dsimp only [↓reduceIte, go_sem]
  exact hK

/-- The iterator: over whatever its rounds do to the caller's state. -/
theorem ops1_c {h : List UInt8} {l ih N : Nat} {σ : AST} {K : AV → AST → Prop} (I J : Nat → AST → Prop) (hlh : h.length ≤ 9223372036854775807)
    (hI : ∀ i s, I i s → s.objs.length = N ∧ s.objs[ih]? = some (.cells (.str h)))
    (hJ : ∀ i s, J i s → s.objs.length = N ∧ s.objs[ih]? = some (.cells (.str h)))
    (hY : ∀ i b s o, h[i]? = some b → I i s → YCalls Try.prog l [.int .i64 b.toNat, .int .i64 (cnt b.toNat (h.take (i + 1)))] (s.app [o]) fun v σ' => ∃ s', σ' = s'.app [o] ∧ ((v = .bool true ∧ I (i + 1) s') ∨ (v = .bool false ∧ J i s')))
    (h0 : I 0 σ) (hend : ∀ s o, I h.length s → K (.tuple []) (s.app [o])) (hstop : ∀ i s o, i < h.length → J i s → K (.tuple []) (s.app [o])) :
    TCalls Try.prog 56 [.fn (.yield l) [] [], .ptr (some (ih, []))] σ K := by
  refine tcalls_walk Try.f56 _ [] Try.func56 rfl rfl rfl mixed (Nat.le_of_ble_eq_true rfl) rfl fun hlen => ?_
  have hlt : ∀ {i s}, I i s → ih < s.objs.length := fun {i s} h => (List.getElem?_eq_some_iff.1 (hI i s h).2).1
  have hcell : ∀ {i s o}, I i s → cellAt (s.app [o]) ih [] = some (.str h) := fun {i s o} hh => by
    simp only [cellAt, AST.app, List.getElem?_append_left (hlt hh), (hI i s hh).2, Option.bind_some, objCell, AV.at]
  simp -dsimp only [↓reduceIte, go_sem]
  refine ⟨zeroOf42, later_intro ?_⟩
  simp -dsimp only [↓reduceIte, go_sem]
  refine ⟨by intro x hx; simp only [List.mem_singleton] at hx; subst hx; simp only [go_sem], later_intro ?_⟩
  rw [zero42, push_app, (hI 0 σ h0).1]
  simp -dsimp only [↓reduceIte, go_sem]
  rw [hcell h0]
  simp -dsimp only [↓reduceIte, go_sem]
  refine arr_intro fun _ => ?_
  simp -dsimp only [↓reduceIte, go_sem]
  refine awp_rounds (fun (i : Nat) τ s' => ∃ (s : AST) (cs : List Int), s' = s.app [.cells (.agg (cs.map (AV.int .i64)))] ∧ I i s ∧ i ≤ h.length ∧ cs.length = 256 ∧ (∀ b : UInt8, cs[b.toNat]? = some ((cnt b.toNat (h.take i) : Nat) : Int)) ∧
    τ 0 = .fn (.yield l) [] [] ∧ τ 1 = .ptr (some (ih, [])) ∧ τ 4 = .fn (.func 57) [] [.ptr (some (N, []))] ∧ τ 8 = .int .i64 h.length ∧ τ 9 = .int .i64 i) (fun i => h.length - i) 0 ?_ ?_
  · refine ⟨σ, _, rfl, h0, by omega, List.length_replicate, fun b => ?_, ?_, ?_, ?_, ?_, ?_⟩ <;> try (simp only [go_sem] <;> rfl)
    have := b.toNat_lt
    rw [List.getElem?_replicate, if_pos this]; simp [cnt]
  · rintro i τ s' ⟨s, cs, rfl, hs, hi, hcl, hcs, t0, t1, t4, t8, t9⟩
    have hN := (hI i s hs).1
    simp -dsimp only [↓reduceIte, go_sem, t0, t1, t4, t8, t9]
    refine boolW_split (fun h1 => ?_) (fun h1 => ?_)
    · have h1 : i < h.length := by simp at h1; omega
      obtain ⟨b, hb⟩ := get_lt h1
      have hc := cnt_take (c := (b.toNat : Int)) hb
      rw [if_pos isC_self] at hc
      have hcle := cnt_take_le (c := (b.toNat : Int)) (h := h) (i := i)
      simp -dsimp only [↓reduceIte, go_sem, t0, t1, t4, t8, t9]
      refine awp_drawE [(0, false), (1, false), (2, false), (3, false), (4, false), (5, false), (6, false), (7, false), (8, false), (9, true), (10, true), (11, false)] (by kernel_rfl) ?_
      simp -dsimp only [↓reduceIte, go_sem, t0, t1, t4, t8, t9, hcell hs]
      refine nth_get hb ?_
      simp -dsimp only [↓reduceIte, go_sem, t0, t1, t4, t8, t9, hcell hs]
      refine nth_get hb ?_
      simp -dsimp only [↓reduceIte, go_sem, t0, t1, t4, t8, t9, hcell hs]
      refine next_c hcl (by rw [← hN, objs_app0]; rfl) (hcs b) (by omega) (by omega) ?_
      simp -dsimp only [↓reduceIte, go_sem, t0, t1, t4, t8, t9, hcell hs]
      have hst : (s.app [AObj.cells (.agg (cs.map (AV.int .i64)))]).set N (.cells (.agg ((cs.set b.toNat (((cnt b.toNat (h.take i) : Nat) : Int) + 1)).map (AV.int .i64)))) = s.app [.cells (.agg ((cs.set b.toNat (((cnt b.toNat (h.take i) : Nat) : Int) + 1)).map (AV.int .i64)))] := by
        rw [← hN, set_app0]; rfl
      rw [hst]
      have hk : ∀ (a b : AObj), keeps [ih, ih] (s.app [a]) (s.app [b]) := fun a b k hk => by
        have : k = ih := by simpa using hk
        subst this
        simp only [AST.app, List.getElem?_append_left (hlt hs)]
      refine ⟨hk _ _, ?_⟩
      simp -dsimp only [↓reduceIte, go_sem, t0, t1, t4, t8, t9, hcell hs]
      rw [show (((cnt b.toNat (h.take i) : Nat) : Int) + 1) = ((cnt b.toNat (h.take (i + 1)) : Nat) : Int) by rw [hc]; rfl]
      have hbt := b.toNat_lt
      rw [wrap_i64 (n := (b.toNat : Int)) (by omega) (by omega)]
      refine (hY i b s _ hb hs).mono ?_
      rintro v _ ⟨s', rfl, hv⟩
      have hcs' : ∀ a : UInt8, (cs.set b.toNat ((cnt b.toNat (h.take (i + 1)) : Nat) : Int))[a.toNat]? = some ((cnt a.toNat (h.take (i + 1)) : Nat) : Int) := fun a => by
        by_cases hab : a = b
        · subst hab; rw [List.getElem?_set_self (by omega)]
        · have hne : b.toNat ≠ a.toNat := fun e => hab (UInt8.toNat_inj.1 e).symm
          rw [List.getElem?_set_ne hne, hcs a, cnt_take (c := (a.toNat : Int)) hb, isC_other hab]; simp
      have hk2 : s'.objs[ih]? = some (.cells (.str h)) → ∀ (a b : AObj), keeps [ih, ih] (s.app [a]) (s'.app [b]) := fun h2 a b k hk => by
        have : k = ih := by simpa using hk
        subst this
        have := (List.getElem?_eq_some_iff.1 h2).1
        simp only [AST.app, List.getElem?_append_left (hlt hs), List.getElem?_append_left this, (hI i s hs).2, h2]
      rcases hv with ⟨rfl, hs'⟩ | ⟨rfl, hs'⟩
      · refine ⟨hk2 (hI _ _ hs').2 _ _, ?_⟩
        simp -dsimp only [↓reduceIte, go_sem, t0, t1, t4, t8, t9]
        rw [wrap_i64 (by omega) (by omega)]
        refine later_intro ⟨i + 1, by omega, s', _, rfl, hs', by omega, by simpa using hcl, hcs', ?_, ?_, ?_, ?_, ?_⟩ <;> (try simp only [go_sem, t0, t1, t4, t8, t9]) <;> rfl
      · refine ⟨hk2 (hJ _ _ hs').2 _ _, ?_⟩
        simp -dsimp only [↓reduceIte, go_sem, t0, t1, t4, t8, t9]
        exact hstop i s' _ h1 hs'
    · have h1 : i = h.length := by simp at h1; omega
      subst h1
      simp -dsimp only [↓reduceIte, go_sem, t0, t1, t4, t8, t9]
      exact hend s _ hs
end Go.Aff.L09

/- Layer 9, walked: how many operations a client has; where one stands. -/
namespace Go.Aff.L09
open Go.Proofs Go.Aff
set_option linter.unusedVariables false
set_option maxRecDepth 20000
set_option linter.unusedSimpArgs false
attribute [local go_sem] Try.underlying3 Try.underlying4 Try.underlying5 Try.underlying9 Try.underlying106 fits3 fits9 push_app app_app length_app cellAt_app cellAt_app0 set_app set_app0 objs_app objs_app0 List.cons_append List.nil_append List.length_cons List.length_nil List.getElem?_cons_zero List.getElem?_cons_succ List.set_cons_zero List.set_cons_succ
attribute [-go_sem] cellAt_new

theorem zero3 : zeroA Try.prog 12 3 = .int .i64 0 := by kernel_rfl
theorem zeroOf3 : ZeroOf Try.prog 3 (.int .i64 0) := ⟨_, _, rfl, rfl, rfl, rfl, rfl⟩

theorem ops_c {h : List UInt8} {σ : AST} {K : AV → AST → Prop} (hK : K (.fn (.func 56) [] [.ptr (some (σ.objs.length, []))]) (σ.app [.cells (.str h)])) : TCalls Try.prog 40 [.str h] σ K := by
  refine tcalls_walk Try.f40 _ [.tmp 2] Try.func40 rfl rfl rfl mixed (Nat.le_of_ble_eq_true rfl) rfl fun hlen => ?_
  simp -dsimp only [↓reduceIte, go_sem]
  refine ⟨by intro x hx; simp only [List.mem_singleton] at hx; subst hx; simp only [go_sem], later_intro ?_⟩
  simp -dsimp only [↓reduceIte, go_sem]
  exact hK

/-- A loop over hist.Ops: C: the caller's own objects when i operations have come; J: when a round has returned. -/
theorem wpX_ops {h : List UInt8} {fo : Operand} {ps : Array Tmp} {assign body : Code} {Q : Exit → List Deferred → Env → AST → Prop} {ds : List Deferred} {τ : Env} {σ : AST} {n kh m : Nat} (vs : List AV) (C : Nat → List AObj) (G : Nat → Prop) (J : Nat → List AObj → Prop) (hG : G 0)
    (hlh : h.length ≤ 9223372036854775807) (hf : ev τ fo = .fn (.func 56) [] [.ptr (some (σ.objs.length + kh, []))])
    (hvs : ∀ (i : Nat) v, vs[i]? = some v → v = .undef ∨ (v = τ i ∧ v.known = true)) (hvl : vs.length ≤ n) (hps : ps.size = 2) (hp : ∀ p ∈ ps.toList, p < n) (hd1 : dstOk n assign = true) (hd2 : dstOk n body = true)
    (hCl : ∀ i, (C i).length = m) (hCh : ∀ i, (C i)[kh]? = some (.cells (.str h))) (hJ : ∀ i L, J i L → L.length = m ∧ L[kh]? = some (.cells (.str h)))
    (hround : ∀ (i : Nat) (b : UInt8) (E : List AObj) (KA : Env → AST → Prop), h[i]? = some b → G i → (∀ τ', (∀ (E' : List AObj) (KB : Exit → Env → AST → Prop), (∀ τ'', G (i + 1) → KB .normal τ'' (σ.app (C (i + 1) ++ E'))) → (∀ τ'' L, J i L → KB .ret τ'' (σ.app (L ++ E'))) → awp Try.prog body KB τ' (σ.app (C i ++ E'))) → KA τ' (σ.app (C i ++ E))) →
      awp Try.prog assign (thenQ KA fun _ _ _ => False) (envR vs ps.toList [.int .i64 b.toNat, .int .i64 (cnt b.toNat (h.take (i + 1)))]) (σ.app (C i ++ E)))
    (hdone : ∀ D E, G h.length → E[0]? = some (AObj.pin D (.deferred (some [])) [] []) → Q .normal (⟨.collected D, #[]⟩ :: ds) τ (σ.app (C h.length ++ E)))
    (hstop : ∀ i D L E, J i L → E[0]? = some (AObj.pin D (.deferred (some [])) [] []) → wpX Try.prog n .ret Q (⟨.collected D, #[]⟩ :: ds) τ (σ.app (L ++ E))) :
    wpX Try.prog n (.rangeFunc fo ps assign body) Q ds τ (σ.app (C 0)) := by
  have hkh : kh < m := by have := (List.getElem?_eq_some_iff.1 (hCh 0)).1; rw [hCl] at this; exact this
  refine wpX_range (gf := 56) hf hvs hvl fun fn l D tm htm => ?_
  have hlen0 : (σ.app (C 0)).objs.length + 1 = σ.objs.length + (m + 1) := by rw [length_app, hCl]; omega
  rw [hlen0]
  have at1 : ∀ (L : List AObj) (x y : AObj) (r : List AObj), L.length = m → (σ.app (L ++ x :: y :: r)).objs[σ.objs.length + (m + 1)]? = some y := fun L x y r hL => by
    rw [objs_app, List.getElem?_append_right (by omega), hL, show m + 1 - m = 1 by omega]; rfl
  have set1 : ∀ (L : List AObj) (x y z : AObj) (r : List AObj), L.length = m → (σ.app (L ++ x :: y :: r)).set (σ.objs.length + (m + 1)) z = σ.app (L ++ x :: z :: r) := fun L x y z r hL => by
    rw [set_app, List.set_append_right _ _ (by omega), hL, show m + 1 - m = 1 by omega]; rfl
  have hst : ((σ.app (C 0)).push (.pin D (.deferred (some [])) [] [])).push (.pin l (rec fn tm ps assign body D .ready none) vs tm.toList) = σ.app (C 0 ++ [.pin D (.deferred (some [])) [] [], .pin l (rec fn tm ps assign body D .ready none) vs tm.toList]) := by
    rw [push_app, push_app, app_app, app_app]; rfl
  rw [hst]
  refine ops1_c (h := h) (N := σ.objs.length + (m + 2)) (fun i s => G i ∧ s = σ.app (C i ++ [.pin D (.deferred (some [])) [] [], .pin l (rec fn tm ps assign body D .ready none) vs tm.toList]))
    (fun i s => ∃ L, J i L ∧ s = σ.app (L ++ [.pin D (.deferred (some [])) [] [], .pin l (rec fn tm ps assign body D .done (some .ret)) vs tm.toList])) hlh ?_ ?_ ?_ ⟨hG, rfl⟩ ?_ ?_
  · rintro i _ ⟨_, rfl⟩
    refine ⟨by rw [length_app, List.length_append, hCl]; rfl, ?_⟩
    rw [objs_app, List.getElem?_append_left (by rw [hCl]; exact hkh)]; exact hCh i
  · rintro i _ ⟨L, hL, rfl⟩
    obtain ⟨h1, h2⟩ := hJ i L hL
    refine ⟨by rw [length_app, List.length_append, h1]; rfl, ?_⟩
    rw [objs_app, List.getElem?_append_left (by omega)]; exact h2
  · rintro i b _ o hb ⟨hGi, rfl⟩
    rw [app_app, List.append_assoc]
    refine ycalls_of mixed (il := σ.objs.length + (m + 1)) (at1 _ _ _ _ (hCl i)) (by simp [hps]) (by rw [htm]; exact hp) (by rw [htm]; exact hvl) (by rw [htm]; exact hd1) (by rw [htm]; exact hd2) ?_
    refine hround i b _ _ hb hGi fun τ' hbody => ⟨at1 _ _ _ _ (hCl i), ?_⟩
    simp only [List.cons_append, List.nil_append]
    rw [set1 _ _ _ _ _ (hCl i)]
    refine hbody _ _ ?_ ?_
    · intro τ'' hGn
      refine ⟨at1 _ _ _ _ (hCl _), _, ?_, .inl ⟨rfl, hGn, rfl⟩⟩
      rw [set1 _ _ _ _ _ (hCl _), app_app, List.append_assoc]; rfl
    · intro τ'' L hL
      have hm := (hJ i L hL).1
      refine ⟨at1 _ _ _ _ hm, _, ?_, .inr ⟨rfl, L, hL, rfl⟩⟩
      rw [set1 _ _ _ _ _ hm, app_app, List.append_assoc]; rfl
  · rintro _ o ⟨hGn, rfl⟩
    refine ⟨.ready, none, by simp, by rw [app_app, List.append_assoc]; exact at1 _ _ _ _ (hCl _), ?_⟩
    rw [app_app, List.append_assoc]
    simp only [List.cons_append, List.nil_append]
    rw [set1 _ _ _ _ _ (hCl _)]
    exact hdone D _ hGn rfl
  · rintro i _ o hi ⟨L, hL, rfl⟩
    have hm := (hJ i L hL).1
    refine ⟨.done, some .ret, by simp, by rw [app_app, List.append_assoc]; exact at1 _ _ _ _ hm, ?_⟩
    rw [app_app, List.append_assoc]
    simp only [List.cons_append, List.nil_append]
    rw [set1 _ _ _ _ _ hm]
    exact hstop i D L _ hL rfl

theorem count_c {h : List UInt8} {c : Int} {σ : AST} {K : AV → AST → Prop} (hK : K (.int .i64 (cnt c h)) σ) : TCalls Try.prog 31 [.str h, .int .i64 c] σ K := by
  refine TCalls.drop ?_
  refine tcalls_ofX Try.f31 ⟨_, Try.func31, rfl, rfl⟩ Try.func31 rfl (Nat.le_of_ble_eq_true rfl) fun hlen => ?_
  have hlh : h.length ≤ 9223372036854775807 := hlen (.str h) (by simp)
  refine wpX_seq_k mixed rfl fun KR hKR => ?_
  simp -dsimp only [↓reduceIte, go_sem]
  refine hKR _ _ (wpX_seq_k mixed rfl fun KR hKR => ?_)
  simp -dsimp only [↓reduceIte, go_sem]
  rw [zero3]
  refine ⟨zeroOf3, later_intro ?_⟩
  simp -dsimp only [↓reduceIte, go_sem]
  refine hKR _ _ (wpX_seq (wpX_seq_k mixed rfl fun KR hKR => ?_))
  simp -dsimp only [↓reduceIte, go_sem]
  refine ops_c ?_
  simp -dsimp only [↓reduceIte, go_sem]
  refine hKR _ _ (wpX_block (wpX_ops (n := Try.f31.ntmps) (kh := 2) (m := 3) [.undef, .undef, .undef, .ptr (some (σ.objs.length, [])), .undef, .ptr (some (σ.objs.length + 1, []))]
    (fun i => [.cells (.int .i64 c), .cells (.int .i64 (cnt c (h.take i))), .cells (.str h)]) (fun _ => True) (fun _ _ => False) trivial hlh ?_ ?_ (by show 6 ≤ 17; decide) rfl (by decide) rfl rfl (fun _ => rfl) (fun _ => rfl) (fun _ _ h => h.elim) ?_ ?_ (fun _ _ _ _ h => h.elim)))
  · simp only [go_sem]
  · intro i v hv
    rcases i with _ | _ | _ | _ | _ | _ | i <;> simp only [List.getElem?_cons_zero, List.getElem?_cons_succ, List.getElem?_nil, Option.some.injEq, reduceCtorEq] at hv <;> subst hv <;> first | exact .inl rfl | (right; exact ⟨by simp only [go_sem], rfl⟩)
  · intro i b E KA hb _ hKA
    have hi : i < h.length := (List.getElem?_eq_some_iff.1 hb).1
    have hcl := cnt_take_le (c := c) (h := h) (i := i)
    have hct := cnt_take (c := c) hb
    simp only [envR, List.zip_cons_cons, List.zip_nil_right, List.foldl_cons, List.foldl_nil]
    simp -dsimp only [↓reduceIte, go_sem]
    refine hKA _ fun E' KB hn _ => ?_
    simp -dsimp only [↓reduceIte, go_sem]
    refine boolW_split (fun hbc => ?_) (fun hbc => ?_)
    · have hbc : isC c b = true := by simpa [isC] using hbc
      rw [if_pos hbc] at hct
      simp -dsimp only [↓reduceIte, go_sem]
      rw [wrap_i64 (by omega) (by omega)]
      have := hn
      simp only [hct] at this
      exact this _ trivial
    · have hbc : ¬ isC c b = true := by simpa [isC] using hbc
      rw [if_neg hbc] at hct
      simp -dsimp only [↓reduceIte, go_sem]
      have := hn
      simp only [hct, Nat.add_zero] at this
      exact this _ trivial
  · intro D E _ hE
    simp -dsimp only [↓reduceIte, go_sem]
    refine wpX_awp mixed rfl fun _ => ?_
    simp -dsimp only [↓reduceIte, go_sem]
    rw [List.take_length]
    refine ⟨.inr rfl, D, σ.objs.length + 3, [], [], rfl, by rw [objs_app]; exact hE, ?_⟩
    rw [set_app]
    show resW Try.prog [.tmp 4] _ _ _
    simp -dsimp only [↓reduceIte, go_sem]
    exact ⟨Ext.app _ _, rfl, hK⟩

end Go.Aff.L09

/- Layer 9, plainly: places, beginnings, orders. -/
namespace Go.Aff.L09
set_option linter.unusedVariables false
set_option linter.unusedSimpArgs false

theorem cnt_mono {c : Int} {h : List UInt8} {i j : Nat} (hij : i ≤ j) : cnt c (h.take i) ≤ cnt c (h.take j) := by
  have : h.take i = (h.take j).take i := by rw [List.take_take, Nat.min_eq_left hij]
  rw [this]
  exact List.Sublist.countP_le (List.take_sublist _ _)
theorem placeL_spec {c : Int} {h : List UInt8} {i : Nat} {b : UInt8} (hb : h[i]? = some b) (hc : isC c b = true) : ∀ (d j : Nat), d + j = i → placeL c ((cnt c (h.take (i + 1)) : Nat) : Int) (h.drop j) j (cnt c (h.take j)) = i
  | 0, j, hj => by
    obtain rfl : j = i := by omega
    rw [placeL_step hb, if_pos ⟨hc, rfl⟩]
  | d + 1, j, hj => by
    have hlt := (List.getElem?_eq_some_iff.1 hb).1
    have hjb : h[j]? = some h[j] := List.getElem?_eq_getElem (by omega)
    rw [placeL_step hjb, if_neg, placeL_spec hb hc d (j + 1) (by omega)]
    rintro ⟨_, he⟩
    have h1 := cnt_take (c := c) hb
    rw [if_pos hc] at h1
    have h2 := cnt_mono (c := c) (h := h) (i := j + 1) (j := i) (by omega)
    omega
theorem place_spec {c : Int} {h : List UInt8} {i : Nat} {b : UInt8} (hb : h[i]? = some b) (hc : isC c b = true) : place h c ((cnt c (h.take (i + 1)) : Nat) : Int) = i := by
  have := placeL_spec hb hc i 0 (by omega)
  simpa [place, cnt] using this
theorem place_range {c n : Int} {h : List UInt8} : place h c n = -1 ∨ (0 ≤ place h c n ∧ place h c n < h.length) := by
  have := placeL_range (c := c) (n := n) (r := h) (i := 0) (k := 0)
  unfold place; omega
theorem uptoL_some {c : Int} {h : List UInt8} : ∀ n, n ≤ h.length → cnt c (h.take n) = cnt c h → cnt c h ≠ 0 → uptoL c h n = h.take ((place h c (cnt c h)).toNat + 1) ∧ 0 ≤ place h c (cnt c h)
  | 0, _, h1, h2 => absurd h1.symm h2
  | n + 1, hn, h1, h2 => by
    have hb : h[n]? = some h[n] := List.getElem?_eq_getElem (by omega)
    have hct := cnt_take (c := c) hb
    simp only [uptoL, hb]
    split
    · rename_i hc
      have := place_spec hb hc
      rw [h1] at this
      rw [this]; simp
    · rename_i hc
      rw [if_neg hc] at hct
      exact uptoL_some n (by omega) (by omega) h2
theorem uptoL_none {c : Int} {h : List UInt8} (h0 : cnt c h = 0) : ∀ n, uptoL c h n = []
  | 0 => rfl
  | n + 1 => by
    simp only [uptoL]
    split
    · rename_i b hb
      rw [if_neg]
      · exact uptoL_none h0 n
      · have hm : b ∈ h := List.mem_iff_getElem?.2 ⟨n, hb⟩
        unfold cnt at h0
        rw [List.countP_eq_zero] at h0
        exact h0 b hm
    · exact uptoL_none h0 n
theorem upto_none {c : Int} {h : List UInt8} (h0 : cnt c h = 0) : upto h c = [] := uptoL_none h0 _
theorem upto_some {c : Int} {h : List UInt8} (h0 : cnt c h ≠ 0) : upto h c = h.take ((place h c (cnt c h)).toNat + 1) ∧ 0 ≤ place h c (cnt c h) := uptoL_some _ (Nat.le_refl _) (by rw [List.take_length]) h0

/-! ### Growing -/
theorem placeL_append {c n : Int} : ∀ {h more : List UInt8} {i k : Nat}, placeL c n h i k ≠ -1 → placeL c n (h ++ more) i k = placeL c n h i k
  | [], more, i, k, hh => absurd rfl hh
  | b :: r, more, i, k, hh => by
    simp only [List.cons_append, placeL] at hh ⊢
    split
    · rename_i hc
      rw [if_pos hc] at hh
      split
      · rfl
      · rename_i hn
        rw [if_neg hn] at hh
        exact placeL_append hh
    · rename_i hc
      rw [if_neg hc] at hh
      exact placeL_append hh
theorem placeL_found {c : Int} : ∀ {h : List UInt8} {i k n : Nat}, k < n → n ≤ k + cnt c h → placeL c (n : Nat) h i k ≠ -1
  | [], i, k, n, h1, h2 => by simp [cnt] at h2; omega
  | b :: r, i, k, n, h1, h2 => by
    have hcc : cnt c (b :: r) = cnt c r + if isC c b = true then 1 else 0 := by simp [cnt, List.countP_cons]
    simp only [placeL]
    split
    · rename_i hc
      rw [if_pos hc] at hcc
      split
      · omega
      · rename_i hn
        exact placeL_found (by omega) (by omega)
    · rename_i hc
      rw [if_neg hc] at hcc
      exact placeL_found h1 (by omega)
theorem place_append {c : Int} {h more : List UInt8} {n : Nat} (h1 : 1 ≤ n) (h2 : n ≤ cnt c h) : place (h ++ more) c n = place h c n :=
  placeL_append (placeL_found (by omega) (by omega))
theorem upto_prefix {c : Int} {h : List UInt8} : upto h c <+: h := by
  by_cases h0 : cnt c h = 0
  · rw [upto_none h0]; exact List.nil_prefix
  · rw [(upto_some h0).1]; exact List.take_prefix _ _
theorem cnt_upto {c : Int} {h : List UInt8} : cnt c (upto h c) = cnt c h := by
  have key : ∀ n, n ≤ h.length → cnt c (h.take n) = cnt c h → cnt c (uptoL c h n) = cnt c h := by
    intro n
    induction n with
    | zero => intro _ h1; simpa [uptoL] using h1
    | succ n ih =>
      intro hn h1
      have hb : h[n]? = some h[n] := List.getElem?_eq_getElem (by omega)
      have hct := cnt_take (c := c) hb
      simp only [uptoL, hb]
      split
      · exact h1
      · rename_i hc
        rw [if_neg hc] at hct
        exact ih (by omega) (by omega)
  exact key _ (Nat.le_refl _) (by rw [List.take_length])
theorem upto_append {c : Int} {h more : List UInt8} (h0 : cnt c more = 0) : upto (h ++ more) c = upto h c := by
  have hcc : cnt c (h ++ more) = cnt c h := by rw [cnt_append, h0]; rfl
  by_cases hz : cnt c h = 0
  · rw [upto_none hz, upto_none (by omega)]
  · obtain ⟨h1, h2⟩ := upto_some hz
    obtain ⟨h3, h4⟩ := upto_some (c := c) (h := h ++ more) (by omega)
    rw [h1, h3, hcc, place_append (by omega) (Nat.le_refl _)]
    have := place_range (c := c) (n := cnt c h) (h := h)
    rw [List.take_append_of_le_length (by omega)]

/-! ### Going on, fitting -/
def goes (long short : List UInt8) : Bool := decide (short <+: long)
theorem goes_refl {a : List UInt8} : goes a a = true := by simp [goes]
theorem goes_antisymm {a b : List UInt8} (h1 : goes a b = true) (h2 : goes b a = true) : a = b := by
  simp only [goes, decide_eq_true_eq] at h1 h2
  exact h2.eq_of_length_le h1.length_le
theorem goes_trans {a b c : List UInt8} (h1 : goes a b = true) (h2 : goes b c = true) : goes a c = true := by
  simp only [goes, decide_eq_true_eq] at *
  exact h2.trans h1
theorem fit_eq {a b : List UInt8} : fit a b = (goes a b || goes b a) := by simp [fit, goes]
theorem fit_symm {a b : List UInt8} : fit a b = fit b a := by simp [fit, or_comm]
theorem goes_fit {a b c : List UInt8} (h1 : goes a b = true) (h2 : goes a c = true) : fit b c = true := by
  simp only [goes, fit, decide_eq_true_eq] at *
  rcases Nat.le_total b.length c.length with h | h
  · exact .inr (List.prefix_of_prefix_length_le h1 h2 h)
  · exact .inl (List.prefix_of_prefix_length_le h2 h1 h)
theorem longer_eq {a b : List UInt8} : longer a b = if goes b a = true then b else a := by simp [longer, goes]
theorem longer_hist {a b : List UInt8} : (if a.length < b.length ∧ goes b a = true then b else a) = longer a b := by
  rw [longer_eq]
  by_cases h : goes b a = true
  · by_cases hl : a.length < b.length
    · rw [if_pos ⟨hl, h⟩, if_pos h]
    · rw [if_neg (fun h => hl h.1), if_pos h]
      simp only [goes, decide_eq_true_eq] at h
      exact h.eq_of_length_le (by omega)
  · rw [if_neg (fun x => h x.2), if_neg h]
theorem longer_goes {a b : List UInt8} (h : fit a b = true) : goes (longer a b) a = true ∧ goes (longer a b) b = true := by
  rw [longer_eq]
  rw [fit_eq, Bool.or_eq_true] at h
  split
  · rename_i hb; exact ⟨hb, goes_refl⟩
  · rename_i hb
    rcases h with h | h
    · exact ⟨goes_refl, h⟩
    · exact absurd h hb
theorem longer_or {a b : List UInt8} : longer a b = a ∨ longer a b = b := by rw [longer_eq]; split <;> simp
theorem goes_step {a b : List UInt8} {i : Nat} (hi : ∀ k, k < i → a[k]? = b[k]?) (hl : b.length ≤ a.length) (h : i = b.length) : goes a b = true := by
  simp only [goes, decide_eq_true_eq, List.prefix_iff_eq_take]
  apply List.ext_getElem?
  intro k
  rw [List.getElem?_take]
  split
  · exact (hi k (by omega)).symm
  · exact List.getElem?_eq_none (by omega)
theorem goes_not {a b : List UInt8} {i : Nat} {x y : UInt8} (hx : a[i]? = some x) (hy : b[i]? = some y) (h : x ≠ y) : goes a b = false := by
  simp only [goes, decide_eq_false_iff_not]
  rintro ⟨r, rfl⟩
  rw [List.getElem?_append_left (List.getElem?_eq_some_iff.1 hy).1, hy] at hx
  cases hx; exact h rfl

/-! ### Forks -/
def allBefore (l : List (List UInt8)) (k i : Nat) : Prop := ∀ k' i', i' < k' → (k' < k ∨ k' = k ∧ i' < i) → ∀ x y, l[i']? = some x → l[k']? = some y → fit x y = true
def ForkP (l : List (List UInt8)) (a b : Int) : Prop :=
  (∃ (i k : Nat) (x y : List UInt8), i < k ∧ l[i]? = some x ∧ l[k]? = some y ∧ fit x y = false ∧ allBefore l k i ∧ a = i ∧ b = k) ∨ (allBefore l l.length 0 ∧ a = -1 ∧ b = -1)
theorem allBefore_zero {l : List (List UInt8)} : allBefore l 0 0 := fun k' i' h h' => by omega
theorem allBefore_step {l : List (List UInt8)} {k i : Nat} {x y : List UInt8} (h : allBefore l k i) (hx : l[i]? = some x) (hy : l[k]? = some y) (hf : fit x y = true) : allBefore l k (i + 1) := by
  intro k' i' h1 h2 u v hu hv
  by_cases e : k' = k ∧ i' = i
  · obtain ⟨rfl, rfl⟩ := e
    rw [hx] at hu; rw [hy] at hv; cases hu; cases hv; exact hf
  · exact h k' i' h1 (by omega) u v hu hv
theorem allBefore_row {l : List (List UInt8)} {k : Nat} (h : allBefore l k k) : allBefore l (k + 1) 0 := fun k' i' h1 h2 => h k' i' h1 (by omega)
/-- The first pair that does not fit is one. -/
theorem fork_found {l : List (List UInt8)} {a b : Int} {k i : Nat} {x y : List UInt8} (hF : ForkP l a b) (h : allBefore l k i) (hik : i < k) (hx : l[i]? = some x) (hy : l[k]? = some y) (hf : fit x y = false) : a = i ∧ b = k := by
  rcases hF with ⟨i2, k2, x2, y2, h1, hx2, hy2, hf2, hb, rfl, rfl⟩ | ⟨hb, _, _⟩
  · by_cases e : k2 = k ∧ i2 = i
    · obtain ⟨rfl, rfl⟩ := e; exact ⟨rfl, rfl⟩
    · by_cases hlt : k2 < k ∨ k2 = k ∧ i2 < i
      · have := h k2 i2 h1 hlt x2 y2 hx2 hy2; rw [hf2] at this; cases this
      · have := hb k i hik (by omega) x y hx hy; rw [hf] at this; cases this
  · have hlt := (List.getElem?_eq_some_iff.1 hy).1
    have := hb k i hik (.inl hlt) x y hx hy; rw [hf] at this; cases this
theorem fork_none {l : List (List UInt8)} {a b : Int} (hF : ForkP l a b) (h : allBefore l l.length 0) : a = -1 ∧ b = -1 := by
  rcases hF with ⟨i2, k2, x2, y2, h1, hx2, hy2, hf2, hb, rfl, rfl⟩ | ⟨_, h1, h2⟩
  · have hlt := (List.getElem?_eq_some_iff.1 hy2).1
    have := h k2 i2 h1 (.inl hlt) x2 y2 hx2 hy2; rw [hf2] at this; cases this
  · exact ⟨h1, h2⟩
end Go.Aff.L09

/- Layer 9, walked: which histories may be; counts, places, ends. -/
namespace Go.Aff.L09
open Go.Proofs Go.Aff
set_option linter.unusedVariables false
set_option maxRecDepth 20000
set_option linter.unusedSimpArgs false
attribute [local go_sem] Try.underlying3 Try.underlying4 Try.underlying5 Try.underlying9 Try.underlying39 fits3 fits9

theorem all_take {h : List UInt8} {i : Nat} {b : UInt8} {p : UInt8 → Bool} (hb : h[i]? = some b) : (h.take (i + 1)).all p = ((h.take i).all p && p b) := by
  rw [List.take_add_one, hb]; simp

theorem right_c {h : List UInt8} {n : Int} (h0 : -9223372036854775808 ≤ n) (h1 : n ≤ 9223372036854775807) {σ : AST} {K : AV → AST → Prop} (hK : K (.bool (right h n)) σ) : TCalls Try.prog 70 [.str h, .int .i64 n] σ K := by
  refine tcalls_walk Try.f70 _ [.tmp 4] Try.func70 rfl rfl rfl mixed (Nat.le_of_ble_eq_true rfl) rfl fun hlen => ?_
  have hs : h.length ≤ 9223372036854775807 := hlen (.str h) (by simp)
  simp -dsimp only [↓reduceIte, go_sem]
  refine arr_intro fun _ => ?_
  simp -dsimp only [↓reduceIte, go_sem]
  refine awp_rounds (fun (i : Nat) τ s => i ≤ h.length ∧ s = σ ∧ τ 0 = .str h ∧ τ 1 = .int .i64 n ∧ τ 7 = .int .i64 h.length ∧ τ 8 = .int .i64 i ∧ (h.take i).all (fun b => decide ((b.toNat : Int) < n)) = true) (fun i => h.length - i) 0 ?_ ?_
  · refine ⟨by omega, rfl, ?_, ?_, ?_, ?_, by simp⟩ <;> simp only [go_sem] <;> rfl
  · rintro i τ s ⟨hi, rfl, t0, t1, t7, t8, hall⟩
    simp -dsimp only [↓reduceIte, go_sem, t0, t1, t7, t8]
    refine boolW_split (fun hb => ?_) (fun hb => ?_)
    · have hb : i < h.length := by simp at hb; omega
      obtain ⟨b, hbb⟩ := get_lt hb
      have hbt := b.toNat_lt
      simp -dsimp only [↓reduceIte, go_sem, t0, t1, t7, t8]
      refine nth_get hbb ?_
      simp -dsimp only [↓reduceIte, go_sem, t0, t1, t7, t8]
      rw [wrap_i64 (n := (b.toNat : Int)) (by omega) (by omega)]
      refine boolW_split (fun hc => ?_) (fun hc => ?_)
      · have hc : n ≤ b.toNat := by simpa using hc
        have : right h n = false := by
          unfold right
          rw [Bool.and_eq_false_iff]; left
          rw [List.all_eq_false]
          exact ⟨b, List.mem_iff_getElem?.2 ⟨i, hbb⟩, by simp; omega⟩
        rw [this] at hK
        simp -dsimp only [↓reduceIte, go_sem, t0, t1, t7, t8]
        exact hK
      · have hc : ¬ n ≤ b.toNat := by simpa using hc
        simp -dsimp only [↓reduceIte, go_sem, t0, t1, t7, t8]
        rw [wrap_i64 (by omega) (by omega)]
        refine later_intro ⟨i + 1, by omega, by omega, rfl, ?_, ?_, ?_, ?_, ?_⟩ <;> (try simp only [go_sem, t0, t1, t7, t8]) <;> try rfl
        rw [all_take hbb, hall]; simp; omega
    · have hb : i = h.length := by simp at hb; omega
      subst hb
      rw [List.take_length] at hall
      have hr : right h n = decide (h.length ≤ 512 ∧ 1 ≤ n ∧ n ≤ 256) := by unfold right; rw [hall]; simp
      rw [hr] at hK
      simp -dsimp only [↓reduceIte, go_sem, t0, t1, t7, t8]
      refine arr_intro fun _ => ?_
      simp -dsimp only [↓reduceIte, go_sem, t0, t1, t7, t8]
      refine guardV_split (fun h3 => ?_) (fun h3 => ?_) <;> (try rw [h3])
      · have h3 : h.length ≤ 512 := by simp at h3; omega
        simp -dsimp only [↓reduceIte, go_sem, t0, t1, t7, t8]
        refine guardV_split (fun h4 => ?_) (fun h4 => ?_) <;> (try rw [h4])
        · have h4 : 1 ≤ n := by simpa using h4
          simp -dsimp only [↓reduceIte, go_sem, t0, t1, t7, t8]
          rw [show decide (n ≤ 256) = decide (h.length ≤ 512 ∧ 1 ≤ n ∧ n ≤ 256) by simp [h3, h4]]
          exact hK
        · have h4 : ¬ 1 ≤ n := by simpa using h4
          simp -dsimp only [↓reduceIte, go_sem, t0, t1, t7, t8]
          rw [show decide (h.length ≤ 512 ∧ 1 ≤ n ∧ n ≤ 256) = false by simp; omega] at hK
          exact hK
      · have h3 : ¬ h.length ≤ 512 := by simp at h3; omega
        simp -dsimp only [↓reduceIte, go_sem, t0, t1, t7, t8]
        rw [show decide (h.length ≤ 512 ∧ 1 ≤ n ∧ n ≤ 256) = false by simp; omega] at hK
        exact hK

theorem Right_c {h : List UInt8} {n : Int} (h0 : -9223372036854775808 ≤ n) (h1 : n ≤ 9223372036854775807) {σ : AST} {K : AV → AST → Prop} (hK : K (.bool (right h n)) σ) : TCalls Try.prog 46 [.str h, .int .i64 n] σ K := by
  refine tcalls_walk Try.f46 _ [.tmp 4] Try.func46 rfl rfl rfl mixed (Nat.le_of_ble_eq_true rfl) rfl fun hlen => ?_
  have hs : h.length ≤ 9223372036854775807 := hlen (.str h) (by simp)
  have no : ¬ (h.length ≤ 512 ∧ 1 ≤ n ∧ n ≤ 256) → K (.bool false) σ := fun hno => by
    rw [show right h n = false by unfold right; rw [decide_eq_false hno, Bool.and_false]] at hK; exact hK
  simp -dsimp only [↓reduceIte, go_sem]
  refine guardV_split (fun h2 => ?_) (fun h2 => ?_) <;> (try rw [h2])
  · have h2 : 1 ≤ n := by simp at h2; omega
    simp -dsimp only [↓reduceIte, go_sem]
    refine guardV_split (fun h3 => ?_) (fun h3 => ?_) <;> (try rw [h3])
    · have h3 : n ≤ 256 := by simp at h3; omega
      simp -dsimp only [↓reduceIte, go_sem]
      refine arr_intro fun _ => ?_
      simp -dsimp only [↓reduceIte, go_sem]
      refine boolW_split (fun h4 => ?_) (fun h4 => ?_)
      · have h4 : 512 < h.length := by simp at h4; omega
        simp -dsimp only [↓reduceIte, go_sem]
        exact no (by omega)
      · have h4 : h.length ≤ 512 := by simp at h4; omega
        simp -dsimp only [↓reduceIte, go_sem]
        refine awp_rounds (fun (i : Nat) τ s => i ≤ h.length ∧ s = σ ∧ τ 0 = .str h ∧ τ 1 = .int .i64 n ∧ τ 5 = .int .i64 i ∧ (h.take i).all (fun b => decide ((b.toNat : Int) < n)) = true) (fun i => h.length - i) 0 ?_ ?_
        · refine ⟨by omega, rfl, ?_, ?_, ?_, by simp⟩ <;> simp only [go_sem] <;> rfl
        · rintro i τ s ⟨hi, rfl, t0, t1, t5, hall⟩
          simp -dsimp only [↓reduceIte, go_sem, t0, t1, t5]
          refine arr_intro fun _ => ?_
          simp -dsimp only [↓reduceIte, go_sem, t0, t1, t5]
          refine boolW_split (fun hb => ?_) (fun hb => ?_)
          · have hb : i < h.length := by simp at hb; omega
            obtain ⟨b, hbb⟩ := get_lt hb
            have hbt := b.toNat_lt
            simp -dsimp only [↓reduceIte, go_sem, t0, t1, t5]
            refine nth_get hbb ?_
            simp -dsimp only [↓reduceIte, go_sem, t0, t1, t5]
            rw [wrap_i64 (n := (b.toNat : Int)) (by omega) (by omega), wrap_i64 (n := n - 1) (by omega) (by omega)]
            refine boolW_split (fun hc => ?_) (fun hc => ?_)
            · have hc : n ≤ b.toNat := by simp at hc; omega
              have : right h n = false := by
                unfold right
                rw [Bool.and_eq_false_iff]; left
                rw [List.all_eq_false]
                exact ⟨b, List.mem_iff_getElem?.2 ⟨i, hbb⟩, by simp; omega⟩
              rw [this] at hK
              simp -dsimp only [↓reduceIte, go_sem, t0, t1, t5]
              exact hK
            · have hc : ¬ n ≤ b.toNat := by simp at hc; omega
              simp -dsimp only [↓reduceIte, go_sem, t0, t1, t5]
              rw [wrap_i64 (by omega) (by omega)]
              refine later_intro ⟨i + 1, by omega, by omega, rfl, ?_, ?_, ?_, ?_⟩ <;> (try simp only [go_sem, t0, t1, t5]) <;> try rfl
              rw [all_take hbb, hall]; simp; omega
          · have hb : i = h.length := by simp at hb; omega
            subst hb
            rw [List.take_length] at hall
            have hr : right h n = true := by unfold right; rw [hall]; simp; omega
            rw [hr] at hK
            simp -dsimp only [↓reduceIte, go_sem, t0, t1, t5]
            exact hK
    · have h3 : ¬ n ≤ 256 := by simp at h3; omega
      simp -dsimp only [↓reduceIte, go_sem]
      exact no (by omega)
  · have h2 : ¬ 1 ≤ n := by simp at h2; omega
    simp -dsimp only [↓reduceIte, go_sem]
    exact no (by omega)

theorem Count_c {h : List UInt8} {c : Int} {σ : AST} {K : AV → AST → Prop} (hK : K (.int .i64 (cnt c h)) σ) : TCalls Try.prog 19 [.str h, .int .i64 c] σ K := by
  refine tcalls_walk Try.f19 _ [.tmp 4] Try.func19 rfl rfl rfl mixed (Nat.le_of_ble_eq_true rfl) rfl fun hlen => ?_
  have hs : h.length ≤ 9223372036854775807 := hlen (.str h) (by simp)
  simp -dsimp only [↓reduceIte, go_sem]
  refine awp_rounds (fun (i : Nat) τ s => i ≤ h.length ∧ s = σ ∧ τ 0 = .str h ∧ τ 1 = .int .i64 c ∧ τ 6 = .int .i64 i ∧ τ 5 = .int .i64 (cnt c (h.take i) : Nat)) (fun i => h.length - i) 0 ?_ ?_
  · refine ⟨by omega, rfl, ?_, ?_, ?_, ?_⟩ <;> simp only [go_sem] <;> rfl
  · rintro i τ s ⟨hi, rfl, t0, t1, t6, t5⟩
    have hcl := cnt_take_le (c := c) (h := h) (i := i)
    simp -dsimp only [↓reduceIte, go_sem, t0, t1, t5, t6]
    refine arr_intro fun _ => ?_
    simp -dsimp only [↓reduceIte, go_sem, t0, t1, t5, t6]
    refine boolW_split (fun hb => ?_) (fun hb => ?_)
    · have hb : i < h.length := by simp at hb; omega
      obtain ⟨b, hbb⟩ := get_lt hb
      have hbt := b.toNat_lt
      have hct := cnt_take (c := c) hbb
      simp -dsimp only [↓reduceIte, go_sem, t0, t1, t5, t6]
      refine nth_get hbb ?_
      simp -dsimp only [↓reduceIte, go_sem, t0, t1, t5, t6]
      rw [wrap_i64 (n := (b.toNat : Int)) (by omega) (by omega)]
      refine boolW_split (fun hc => ?_) (fun hc => ?_)
      · have hc : isC c b = true := by simpa [isC] using hc
        rw [if_pos hc] at hct
        simp -dsimp only [↓reduceIte, go_sem, t0, t1, t5, t6]
        rw [wrap_i64 (n := (i : Int) + 1) (by omega) (by omega), wrap_i64 (by omega) (by omega)]
        refine later_intro ⟨i + 1, by omega, by omega, rfl, ?_, ?_, ?_, ?_⟩ <;> (try simp only [go_sem, t0, t1, t5, t6]) <;> try rfl
        rw [hct]; rfl
      · have hc : ¬ isC c b = true := by simpa [isC] using hc
        rw [if_neg hc] at hct
        simp -dsimp only [↓reduceIte, go_sem, t0, t1, t5, t6]
        rw [wrap_i64 (n := (i : Int) + 1) (by omega) (by omega)]
        refine later_intro ⟨i + 1, by omega, by omega, rfl, ?_, ?_, ?_, ?_⟩ <;> (try simp only [go_sem, t0, t1, t5, t6]) <;> try rfl
        rw [hct]; rfl
    · have hb : i = h.length := by simp at hb; omega
      subst hb
      rw [List.take_length] at t5
      simp -dsimp only [↓reduceIte, go_sem, t0, t1, t5, t6]
      exact hK

end Go.Aff.L09

/- Layer 9, walked: ends, beginnings, forks; awake. -/
namespace Go.Aff.L09
open Go.Proofs Go.Aff
set_option linter.unusedVariables false
set_option maxRecDepth 20000
set_option linter.unusedSimpArgs false
attribute [local go_sem] Try.underlying3 Try.underlying4 Try.underlying5 Try.underlying9 Try.underlying39 fits3 fits9

theorem Goes_c {a b : List UInt8} {σ : AST} {K : AV → AST → Prop} (hK : K (.bool (goes a b)) σ) : TCalls Try.prog 17 [.str a, .str b] σ K := by
  refine tcalls_walk Try.f17 _ [.tmp 4] Try.func17 rfl rfl rfl mixed (Nat.le_of_ble_eq_true rfl) rfl fun hlen => ?_
  have hsa : a.length ≤ 9223372036854775807 := hlen (.str a) (by simp)
  have hsb : b.length ≤ 9223372036854775807 := hlen (.str b) (by simp)
  simp -dsimp only [↓reduceIte, go_sem]
  refine arr_intro fun _ => ?_
  simp -dsimp only [↓reduceIte, go_sem]
  refine arr_intro fun _ => ?_
  simp -dsimp only [↓reduceIte, go_sem]
  refine boolW_split (fun h1 => ?_) (fun h1 => ?_)
  · have h1 : a.length < b.length := by simp at h1; omega
    rw [show goes a b = false by simp [goes]; intro h; have := h.length_le; omega] at hK
    simp -dsimp only [↓reduceIte, go_sem]
    exact hK
  · have h1 : b.length ≤ a.length := by simp at h1; omega
    simp -dsimp only [↓reduceIte, go_sem]
    refine awp_rounds (fun (i : Nat) τ s => i ≤ b.length ∧ s = σ ∧ τ 0 = .str a ∧ τ 1 = .str b ∧ τ 5 = .int .i64 i ∧ ∀ k, k < i → a[k]? = b[k]?) (fun i => b.length - i) 0 ?_ ?_
    · refine ⟨by omega, rfl, ?_, ?_, ?_, fun k hk => by omega⟩ <;> simp only [go_sem] <;> rfl
    · rintro i τ s ⟨hi, rfl, t0, t1, t5, hall⟩
      simp -dsimp only [↓reduceIte, go_sem, t0, t1, t5]
      refine arr_intro fun _ => ?_
      simp -dsimp only [↓reduceIte, go_sem, t0, t1, t5]
      refine boolW_split (fun hb => ?_) (fun hb => ?_)
      · have hb : i < b.length := by simp at hb; omega
        obtain ⟨x, hx⟩ := get_lt (l := a) (i := i) (by omega)
        obtain ⟨y, hy⟩ := get_lt hb
        have hxt := x.toNat_lt
        have hyt := y.toNat_lt
        simp -dsimp only [↓reduceIte, go_sem, t0, t1, t5]
        refine awp_drawS [0, 1, 2, 3, 4, 5, 6] (by kernel_rfl) ?_
        simp -dsimp only [↓reduceIte, go_sem, t0, t1, t5]
        refine nth_get hx ?_
        simp -dsimp only [↓reduceIte, go_sem, t0, t1, t5]
        refine nth_get hy ?_
        simp -dsimp only [↓reduceIte, go_sem, t0, t1, t5]
        refine boolW_split (fun hc => ?_) (fun hc => ?_)
        · have hc : x ≠ y := by
            intro e; subst e; simp at hc
          rw [goes_not hx hy hc] at hK
          simp -dsimp only [↓reduceIte, go_sem, t0, t1, t5]
          exact hK
        · have hc : x = y := by
            have : x.toNat = y.toNat := by simp at hc; omega
            exact UInt8.toNat_inj.1 this
          subst hc
          simp -dsimp only [↓reduceIte, go_sem, t0, t1, t5]
          rw [wrap_i64 (by omega) (by omega)]
          refine later_intro ⟨i + 1, by omega, by omega, rfl, ?_, ?_, ?_, fun k hk => ?_⟩ <;> (try simp only [go_sem, t0, t1, t5]) <;> try rfl
          by_cases hki : k = i
          · subst hki; rw [hx, hy]
          · exact hall k (by omega)
      · have hb : i = b.length := by simp at hb; omega
        rw [goes_step hall h1 hb] at hK
        simp -dsimp only [↓reduceIte, go_sem, t0, t1, t5]
        exact hK

end Go.Aff.L09

