/- Layer 9, walked: how many operations a client has; where one stands. -/
import Derived.Test.YtnoopjlfcdmdfaaW09a
namespace Go.Aff.L09
open Go.Proofs Go.Aff
set_option linter.unusedVariables false
set_option linter.unusedSimpArgs false
attribute [local go_sem] Try.underlying3 Try.underlying4 Try.underlying5 Try.underlying9 Try.underlying42 fits3 fits9 push_app app_app length_app cellAt_app cellAt_app0 set_app set_app0 objs_app objs_app0 List.cons_append List.nil_append List.length_cons List.length_nil List.getElem?_cons_zero List.getElem?_cons_succ List.set_cons_zero List.set_cons_succ
attribute [-go_sem] cellAt_new

theorem zero3 : zeroA Try.prog 12 3 = .int .i64 0 := by kernel_rfl
theorem zeroOf3 : ZeroOf Try.prog 3 (.int .i64 0) := ⟨_, _, rfl, rfl, rfl, rfl, rfl⟩

theorem ops_c {h : List UInt8} {σ : AST} {K : AV → AST → Prop} (hK : K (.fn (.func 27) [] [.ptr (some (σ.objs.length, []))]) (σ.app [.cells (.str h)])) : TCalls Try.prog 25 [.str h] σ K := by
  refine tcalls_walk Try.f25 _ [.tmp 2] Try.func25 rfl rfl rfl mixed (Nat.le_of_ble_eq_true rfl) rfl fun hlen => ?_
  simp -dsimp only [↓reduceIte, go_sem]
  refine ⟨by intro x hx; simp only [List.mem_singleton] at hx; subst hx; simp only [go_sem], later_intro ?_⟩
  simp -dsimp only [↓reduceIte, go_sem]
  exact hK

/-- A loop over hist.Ops: C: the caller's own objects when i operations have come; J: when a round has returned. -/
theorem wpX_ops {h : List UInt8} {fo : Operand} {ps : Array Tmp} {assign body : Code} {Q : Exit → List Deferred → Env → AST → Prop} {ds : List Deferred} {τ : Env} {σ : AST} {n kh m : Nat} (vs : List AV) (C : Nat → List AObj) (G : Nat → Prop) (J : Nat → List AObj → Prop) (hG : G 0)
    (hlh : h.length ≤ 9223372036854775807) (hf : ev τ fo = .fn (.func 27) [] [.ptr (some (σ.objs.length + kh, []))])
    (hvs : ∀ (i : Nat) v, vs[i]? = some v → v = .undef ∨ (v = τ i ∧ v.known = true)) (hvl : vs.length ≤ n) (hps : ps.size = 2) (hp : ∀ p ∈ ps.toList, p < n) (hd1 : dstOk n assign = true) (hd2 : dstOk n body = true)
    (hCl : ∀ i, (C i).length = m) (hCh : ∀ i, (C i)[kh]? = some (.cells (.str h))) (hJ : ∀ i L, J i L → L.length = m ∧ L[kh]? = some (.cells (.str h)))
    (hround : ∀ (i : Nat) (b : UInt8) (E : List AObj) (KA : Env → AST → Prop), h[i]? = some b → G i → (∀ τ', (∀ (E' : List AObj) (KB : Exit → Env → AST → Prop), (∀ τ'', G (i + 1) → KB .normal τ'' (σ.app (C (i + 1) ++ E'))) → (∀ τ'' L, J i L → KB .ret τ'' (σ.app (L ++ E'))) → awp Try.prog body KB τ' (σ.app (C i ++ E'))) → KA τ' (σ.app (C i ++ E))) →
      awp Try.prog assign (thenQ KA fun _ _ _ => False) (envR vs ps.toList [.int .i64 b.toNat, .int .i64 (cnt b.toNat (h.take (i + 1)))]) (σ.app (C i ++ E)))
    (hdone : ∀ D E, G h.length → E[0]? = some (AObj.pin D (.deferred (some [])) [] []) → Q .normal (⟨.collected D, #[]⟩ :: ds) τ (σ.app (C h.length ++ E)))
    (hstop : ∀ i D L E, J i L → E[0]? = some (AObj.pin D (.deferred (some [])) [] []) → wpX Try.prog n .ret Q (⟨.collected D, #[]⟩ :: ds) τ (σ.app (L ++ E))) :
    wpX Try.prog n (.rangeFunc fo ps assign body) Q ds τ (σ.app (C 0)) := by
  have hkh : kh < m := by have := (List.getElem?_eq_some_iff.1 (hCh 0)).1; rw [hCl] at this; exact this
  refine wpX_range (gf := 27) hf hvs hvl fun fn l D tm htm => ?_
  have hlen0 : (σ.app (C 0)).objs.length + 1 = σ.objs.length + (m + 1) := by rw [length_app, hCl]; omega
  rw [hlen0]
  have at1 : ∀ (L : List AObj) (x y : AObj) (r : List AObj), L.length = m → (σ.app (L ++ x :: y :: r)).objs[σ.objs.length + (m + 1)]? = some y := fun L x y r hL => by
    rw [objs_app, List.getElem?_append_right (by omega), hL, show m + 1 - m = 1 by omega]; rfl
  have set1 : ∀ (L : List AObj) (x y z : AObj) (r : List AObj), L.length = m → (σ.app (L ++ x :: y :: r)).set (σ.objs.length + (m + 1)) z = σ.app (L ++ x :: z :: r) := fun L x y z r hL => by
    rw [set_app, List.set_append_right _ _ (by omega), hL, show m + 1 - m = 1 by omega]; rfl
  have hst : ((σ.app (C 0)).push (.pin D (.deferred (some [])) [] [])).push (.pin l (rec fn tm ps assign body D .ready none) vs tm.toList) = σ.app (C 0 ++ [.pin D (.deferred (some [])) [] [], .pin l (rec fn tm ps assign body D .ready none) vs tm.toList]) := by
    rw [push_app, push_app, app_app, app_app]; rfl
  rw [hst]
  refine ops1_c (h := h) (N := σ.objs.length + (m + 2)) (fun i s => G i ∧ s = σ.app (C i ++ [.pin D (.deferred (some [])) [] [], .pin l (rec fn tm ps assign body D .ready none) vs tm.toList]))
    (fun i s => ∃ L, J i L ∧ s = σ.app (L ++ [.pin D (.deferred (some [])) [] [], .pin l (rec fn tm ps assign body D .done (some .ret)) vs tm.toList])) hlh ?_ ?_ ?_ ⟨hG, rfl⟩ ?_ ?_
  · rintro i _ ⟨_, rfl⟩
    refine ⟨by rw [length_app, List.length_append, hCl]; rfl, ?_⟩
    rw [objs_app, List.getElem?_append_left (by rw [hCl]; exact hkh)]; exact hCh i
  · rintro i _ ⟨L, hL, rfl⟩
    obtain ⟨h1, h2⟩ := hJ i L hL
    refine ⟨by rw [length_app, List.length_append, h1]; rfl, ?_⟩
    rw [objs_app, List.getElem?_append_left (by omega)]; exact h2
  · rintro i b _ o hb ⟨hGi, rfl⟩
    rw [app_app, List.append_assoc]
    refine ycalls_of mixed (il := σ.objs.length + (m + 1)) (at1 _ _ _ _ (hCl i)) (by simp [hps]) (by rw [htm]; exact hp) (by rw [htm]; exact hvl) (by rw [htm]; exact hd1) (by rw [htm]; exact hd2) ?_
    refine hround i b _ _ hb hGi fun τ' hbody => ⟨at1 _ _ _ _ (hCl i), ?_⟩
    simp only [List.cons_append, List.nil_append]
    rw [set1 _ _ _ _ _ (hCl i)]
    refine hbody _ _ ?_ ?_
    · intro τ'' hGn
      refine ⟨at1 _ _ _ _ (hCl _), _, ?_, .inl ⟨rfl, hGn, rfl⟩⟩
      rw [set1 _ _ _ _ _ (hCl _), app_app, List.append_assoc]; rfl
    · intro τ'' L hL
      have hm := (hJ i L hL).1
      refine ⟨at1 _ _ _ _ hm, _, ?_, .inr ⟨rfl, L, hL, rfl⟩⟩
      rw [set1 _ _ _ _ _ hm, app_app, List.append_assoc]; rfl
  · rintro _ o ⟨hGn, rfl⟩
    refine ⟨.ready, none, by simp, by rw [app_app, List.append_assoc]; exact at1 _ _ _ _ (hCl _), ?_⟩
    rw [app_app, List.append_assoc]
    simp only [List.cons_append, List.nil_append]
    rw [set1 _ _ _ _ _ (hCl _)]
    exact hdone D _ hGn rfl
  · rintro i _ o hi ⟨L, hL, rfl⟩
    have hm := (hJ i L hL).1
    refine ⟨.done, some .ret, by simp, by rw [app_app, List.append_assoc]; exact at1 _ _ _ _ hm, ?_⟩
    rw [app_app, List.append_assoc]
    simp only [List.cons_append, List.nil_append]
    rw [set1 _ _ _ _ _ hm]
    exact hstop i D L _ hL rfl

theorem count_c {h : List UInt8} {c : Int} {σ : AST} {K : AV → AST → Prop} (hK : K (.int .i64 (cnt c h)) σ) : TCalls Try.prog 12 [.str h, .int .i64 c] σ K := by
  refine TCalls.drop ?_
  refine tcalls_ofX Try.f12 ⟨_, Try.func12, rfl, rfl⟩ Try.func12 rfl (Nat.le_of_ble_eq_true rfl) fun hlen => ?_
  have hlh : h.length ≤ 9223372036854775807 := hlen (.str h) (by simp)
  refine wpX_seq_k mixed rfl fun KR hKR => ?_
  simp -dsimp only [↓reduceIte, go_sem]
  refine hKR _ _ (wpX_seq_k mixed rfl fun KR hKR => ?_)
  simp -dsimp only [↓reduceIte, go_sem]
  rw [zero3]
  refine ⟨zeroOf3, later_intro ?_⟩
  simp -dsimp only [↓reduceIte, go_sem]
  refine hKR _ _ (wpX_seq (wpX_seq_k mixed rfl fun KR hKR => ?_))
  simp -dsimp only [↓reduceIte, go_sem]
  refine ops_c ?_
  simp -dsimp only [↓reduceIte, go_sem]
  refine hKR _ _ (wpX_block (wpX_ops (n := Try.f12.ntmps) (kh := 2) (m := 3) [.undef, .undef, .undef, .ptr (some (σ.objs.length, [])), .undef, .ptr (some (σ.objs.length + 1, []))]
    (fun i => [.cells (.int .i64 c), .cells (.int .i64 (cnt c (h.take i))), .cells (.str h)]) (fun _ => True) (fun _ _ => False) trivial hlh ?_ ?_ (by show 6 ≤ 17; decide) rfl (by decide) rfl rfl (fun _ => rfl) (fun _ => rfl) (fun _ _ h => h.elim) ?_ ?_ (fun _ _ _ _ h => h.elim)))
  · simp only [go_sem]
  · intro i v hv
    rcases i with _ | _ | _ | _ | _ | _ | i <;> simp only [List.getElem?_cons_zero, List.getElem?_cons_succ, List.getElem?_nil, Option.some.injEq, reduceCtorEq] at hv <;> subst hv <;> first | exact .inl rfl | (right; exact ⟨by simp only [go_sem], rfl⟩)
  · intro i b E KA hb _ hKA
    have hi : i < h.length := (List.getElem?_eq_some_iff.1 hb).1
    have hcl := cnt_take_le (c := c) (h := h) (i := i)
    have hct := cnt_take (c := c) hb
    simp only [envR, List.zip_cons_cons, List.zip_nil_right, List.foldl_cons, List.foldl_nil]
    simp -dsimp only [↓reduceIte, go_sem]
    refine hKA _ fun E' KB hn _ => ?_
    simp -dsimp only [↓reduceIte, go_sem]
    refine boolW_split (fun hbc => ?_) (fun hbc => ?_)
    · have hbc : isC c b = true := by simpa [isC] using hbc
      rw [if_pos hbc] at hct
      simp -dsimp only [↓reduceIte, go_sem]
      rw [wrap_i64 (by omega) (by omega)]
      have := hn
      simp only [hct] at this
      exact this _ trivial
    · have hbc : ¬ isC c b = true := by simpa [isC] using hbc
      rw [if_neg hbc] at hct
      simp -dsimp only [↓reduceIte, go_sem]
      have := hn
      simp only [hct, Nat.add_zero] at this
      exact this _ trivial
  · intro D E _ hE
    simp -dsimp only [↓reduceIte, go_sem]
    refine wpX_awp mixed rfl fun _ => ?_
    simp -dsimp only [↓reduceIte, go_sem]
    rw [List.take_length]
    refine ⟨.inr rfl, D, σ.objs.length + 3, [], [], rfl, by rw [objs_app]; exact hE, ?_⟩
    rw [set_app]
    show resW Try.prog [.tmp 4] _ _ _
    simp -dsimp only [↓reduceIte, go_sem]
    exact ⟨Ext.app _ _, rfl, hK⟩

theorem place_c {h : List UInt8} {c n : Int} {σ : AST} {K : AV → AST → Prop} (hK : K (.int .i64 (place h c n)) σ) : TCalls Try.prog 14 [.str h, .int .i64 c, .int .i64 n] σ K := by
  refine TCalls.drop ?_
  refine tcalls_ofX Try.f14 ⟨_, Try.func14, rfl, rfl⟩ Try.func14 rfl (Nat.le_of_ble_eq_true rfl) fun hlen => ?_
  have hlh : h.length ≤ 9223372036854775807 := hlen (.str h) (by simp)
  refine wpX_seq_k mixed rfl fun KR hKR => ?_
  simp -dsimp only [↓reduceIte, go_sem]
  rw [zero3]
  refine ⟨zeroOf3, later_intro ?_⟩
  simp -dsimp only [↓reduceIte, go_sem]
  refine hKR _ _ (wpX_seq_k mixed rfl fun KR hKR => ?_)
  simp -dsimp only [↓reduceIte, go_sem]
  rw [zero3]
  refine ⟨zeroOf3, later_intro ?_⟩
  simp -dsimp only [↓reduceIte, go_sem]
  refine hKR _ _ (wpX_seq (wpX_seq_k mixed rfl fun KR hKR => ?_))
  simp -dsimp only [↓reduceIte, go_sem]
  refine ops_c ?_
  simp -dsimp only [↓reduceIte, go_sem]
  refine hKR _ _ (wpX_block (wpX_ops (h := h) (n := Try.f14.ntmps) (kh := 4) (m := 5) [.undef, .undef, .undef, .undef, .ptr (some (σ.objs.length, [])), .ptr (some (σ.objs.length + 1, [])), .ptr (some (σ.objs.length + 2, [])), .ptr (some (σ.objs.length + 3, []))]
    (fun i => [.cells (.int .i64 c), .cells (.int .i64 n), .cells (.int .i64 0), .cells (.int .i64 i), .cells (.str h)]) (fun i => placeL c n (h.drop i) i (cnt c (h.take i)) = place h c n)
    (fun i L => L = [.cells (.int .i64 c), .cells (.int .i64 n), .cells (.int .i64 i), .cells (.int .i64 i), .cells (.str h)] ∧ place h c n = i) rfl hlh ?_ ?_ (by show 8 ≤ 25; decide) rfl (by decide) rfl rfl (fun _ => rfl) (fun _ => rfl) (fun _ _ h => by rw [h.1]; exact ⟨rfl, rfl⟩) ?_ ?_ ?_))
  · simp only [go_sem]
  · intro i v hv
    rcases i with _ | _ | _ | _ | _ | _ | _ | _ | i <;> simp only [List.getElem?_cons_zero, List.getElem?_cons_succ, List.getElem?_nil, Option.some.injEq, reduceCtorEq] at hv <;> subst hv <;> first | exact .inl rfl | (right; exact ⟨by simp only [go_sem], rfl⟩)
  · intro i b E KA hb hGi hKA
    have hi : i < h.length := (List.getElem?_eq_some_iff.1 hb).1
    have hct := cnt_take (c := c) hb
    have hcb := cnt_take (c := (b.toNat : Int)) hb
    rw [placeL_step hb] at hGi
    simp only [envR, List.zip_cons_cons, List.zip_nil_right, List.foldl_cons, List.foldl_nil]
    simp -dsimp only [↓reduceIte, go_sem]
    refine hKA _ fun E' KB hn hs => ?_
    simp -dsimp only [↓reduceIte, go_sem]
    refine guardV_split (fun hbc => ?_) (fun hbc => ?_) <;> (try rw [hbc])
    · have hbc : isC c b = true := by simpa [isC] using hbc
      have hcc : (b.toNat : Int) = c := by simpa [isC] using hbc
      simp -dsimp only [↓reduceIte, go_sem]
      rw [hcc]
      refine boolW_split (fun hcn => ?_) (fun hcn => ?_)
      · have hcn : ((cnt c (h.take (i + 1)) : Nat) : Int) = n := by simpa using hcn
        rw [if_pos ⟨hbc, hcn⟩] at hGi
        simp -dsimp only [↓reduceIte, go_sem]
        exact hs _ _ ⟨rfl, hGi.symm⟩
      · have hcn : ¬ ((cnt c (h.take (i + 1)) : Nat) : Int) = n := by simpa using hcn
        rw [if_neg (fun h => hcn h.2)] at hGi
        simp -dsimp only [↓reduceIte, go_sem]
        rw [wrap_i64 (by omega) (by omega)]
        exact hn _ hGi
    · have hbc : ¬ isC c b = true := by simpa [isC] using hbc
      rw [if_neg (fun h => hbc h.1)] at hGi
      simp -dsimp only [↓reduceIte, go_sem]
      rw [wrap_i64 (by omega) (by omega)]
      exact hn _ hGi
  · intro D E hGn hE
    rw [placeL_end] at hGn
    simp -dsimp only [↓reduceIte, go_sem]
    refine wpX_awp mixed rfl fun _ => ?_
    simp -dsimp only [↓reduceIte, go_sem]
    refine ⟨.inr rfl, D, σ.objs.length + 5, [], [], rfl, by rw [objs_app]; exact hE, ?_⟩
    rw [set_app]
    show resW Try.prog [.cell 6 3] _ _ _
    simp -dsimp only [↓reduceIte, go_sem]
    refine ⟨Ext.app _ _, rfl, ?_⟩
    rw [← hGn] at hK
    exact hK
  · rintro i D L E ⟨rfl, hp⟩ hE
    refine wpX_awp mixed rfl fun _ => ?_
    simp -dsimp only [↓reduceIte, go_sem]
    refine ⟨.inr rfl, D, σ.objs.length + 5, [], [], rfl, by rw [objs_app]; exact hE, ?_⟩
    simp only [List.cons_append, List.nil_append]
    rw [set_app]
    show resW Try.prog [.cell 6 3] _ _ _
    simp -dsimp only [↓reduceIte, go_sem]
    refine ⟨Ext.app _ _, rfl, ?_⟩
    rw [hp] at hK
    exact hK
end Go.Aff.L09
