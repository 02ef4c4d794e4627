import Derived.Test.YtndndlofepehiaaG39

set_option linter.unusedSimpArgs false
set_option linter.unusedVariables false

/- Layer 12, plainly: the order of what was submitted. -/
-- cuts
namespace Go.Aff.L10
open Go.Proofs Go.Aff Go.Aff.L01 Classical
open Go.Aff.L09 (cnt cnt_append cnt_take cnt_mono cnt_nil isC)
set_option linter.unusedVariables false
theorem bch_toNat {n : Int} (h0 : 0 ≤ n) (h8 : n < 8) : ((bch n).toNat : Int) = n := by
  rw [← bch_any]; exact wrap_u8 (by omega) (by omega)
theorem cnt_one {c n : Int} (h0 : 0 ≤ n) (h8 : n < 8) : cnt c [bch n] = if n = c then 1 else 0 := by
  have := bch_toNat h0 h8
  by_cases e : n = c
  · rw [if_pos e]; subst e; simp [cnt, isC, this]
  · rw [if_neg e]; simp [cnt, isC, this, e]
namespace Reg
theorem cutP_at {n k : Int} : ∀ {l : List Pend} {m : Nat} {p : Pend}, l[m]? = some p → (p.client = n ∧ p.num = k) → (∀ i < m, ∀ q, l[i]? = some q → ¬ (q.client = n ∧ q.num = k)) → cutP n k l = l.drop (m + 1)
  | [], m, p, h, _, _ => by simp at h
  | q :: l, 0, p, h, hp, hn => by
    simp at h; subst h
    unfold cutP; rw [if_pos hp]; simp
  | q :: l, m + 1, p, h, hp, hn => by
    unfold cutP; rw [if_neg (hn 0 (by omega) q rfl)]
    rw [cutP_at (by simpa using h) hp fun i hi q hq => hn (i + 1) (by omega) q (by simpa using hq)]
    simp
theorem cut_at {n k : Int} {l : List Pend} {m : Nat} {p : Pend} (h : l[m]? = some p) (hp : p.client = n ∧ p.num = k) (hn : ∀ i < m, ∀ q, l[i]? = some q → ¬ (q.client = n ∧ q.num = k)) : cut n k l = l.drop (m + 1) := by
  unfold cut
  rw [if_pos (List.any_eq_true.2 ⟨p, List.mem_of_getElem? h, by simpa using hp⟩)]
  exact cutP_at h hp hn
/-- What is so while clients submit and commit what they were answered. -/
structure Ord (M : Reg) (nx : List (List UInt8)) : Prop where
  ok : M.Ok
  nl : nx.length = M.n.toNat
  ol : M.order.length ≤ 512
  ob : ∀ b ∈ M.order, (b.toNat : Int) < 8
  pd : ∀ (i : Nat) p, M.pend[i]? = some p → p.num = cnt p.client (M.order.take (M.long.length + i + 1))
  vw : ∀ c, M.has c → (M.cli c).view <+: M.order
  nx1 : ∀ c, M.has c → ∀ v, nx[c.toNat]? = some v → v ≠ [] → v <+: M.order ∧ ((v.getLast?.getD 0).toNat : Int) = c ∧ (cnt c v : Int) = (M.cli c).last.num ∧ (cnt c (M.cli c).view : Int) < (M.cli c).last.num
  nx0 : ∀ c, M.has c → nx[c.toNat]? = some [] → (cnt c (M.cli c).view : Int) = (M.cli c).last.num
  ct : ∀ c, M.has c → (cnt c M.order : Int) = (M.cli c).last.num
variable {M : Reg} {nx : List (List UInt8)}
theorem order_length : M.order.length = M.long.length + M.pend.length := by simp [order, orderL]
theorem has_ne {a b : Int} (ha : M.has a) (hb : M.has b) (h : a ≠ b) : a.toNat ≠ b.toNat := by obtain ⟨x, y⟩ := ha; obtain ⟨z, w⟩ := hb; omega
theorem Ord.submit (h : Ord M nx) {c : Int} {x : Sub} (hc : M.has c) (hx : x.num = (M.cli c).last.num + 1) :
    ((M.submit c x).2.2 ≠ 0 ∧ (M.submit c x).1 = M) ∨
    ((M.submit c x).2.2 = 0 ∧ (M.submit c x).1.order = M.order ++ [bch c] ∧ (M.submit c x).2.1 = M.ans x ∧ (nx[c.toNat]? = some [] → Ord (M.submit c x).1 (nx.set c.toNat (M.order ++ [bch c])))) := by
  by_cases hb : ¬ (subM c x).Ok ∨ ¬ M.has c ∨ ¬ M.has x.target
  · have e : M.submit c x = (M, rep0, 2) := by unfold Reg.submit; rw [if_pos hb]
    rw [e]; exact .inl ⟨fun e => by simp at e, rfl⟩
  · have e1 : ¬ x.num = (M.cli c).last.num := by omega
    have e3 : ¬ x.num ≠ (M.cli c).last.num + 1 := fun e => e hx
    by_cases e4 : 512 ≤ M.order.length ∨ 8 ≤ M.pend.length
    · have e : M.submit c x = (M, rep0, 11) := by unfold Reg.submit; rw [if_neg hb, if_neg e1, if_neg e3, if_pos e4]
      rw [e]; exact .inl ⟨fun e => by simp at e, rfl⟩
    · have hok := submit_ok (M := M) h.ok (n := c) (x := x)
      have e : M.submit c x = ({ M.setC c { M.cli c with last := x, reply := M.ans x } with pend := M.pend ++ [newP c x] }, M.ans x, 0) := by unfold Reg.submit; rw [if_neg hb, if_neg e1, if_neg e3, if_neg e4]
      rw [e] at hok ⊢
      generalize hN : ({ M.setC c { M.cli c with last := x, reply := M.ans x } with pend := M.pend ++ [newP c x] } : Reg) = N at hok ⊢
      have hn : N.n = M.n := by subst hN; rfl
      have hl : N.long = M.long := by subst hN; rfl
      have hp : N.pend = M.pend ++ [newP c x] := by subst hN; rfl
      have hcl : ∀ i, M.has i → N.cli i = if i = c then { M.cli c with last := x, reply := M.ans x } else M.cli i := fun i hi => by
        subst hN; exact cli_setC h.ok hc hi
      have ho : N.order = M.order ++ [bch c] := by
        unfold order; rw [hl, hp]; simp [orderL, newP]
      have hhas : ∀ i, N.has i ↔ M.has i := fun i => by unfold has; rw [hn]
      have c0 := hc.1
      have c8 : c < 8 := by have := hc.2; have := h.ok.n8; omega
      have hcs : (cnt c (M.order ++ [bch c]) : Int) = x.num := by
        rw [cnt_append, cnt_one c0 c8, if_pos rfl, hx]; have := h.ct c hc; omega
      have hnl := h.nl
      refine .inr ⟨rfl, ho, rfl, fun hempty => ⟨hok, by rw [hn]; simpa using h.nl, by rw [ho]; simp; omega, ?_, ?_, ?_, ?_, ?_, ?_⟩⟩
      · intro b hb
        rw [ho] at hb
        rcases List.mem_append.1 hb with hb | hb
        · exact h.ob b hb
        · simp at hb; subst hb; rw [bch_toNat c0 c8]; exact c8
      · intro i p hi
        rw [hl, ho]
        rw [hp] at hi
        have hol := order_length (M := M)
        by_cases hlt : i < M.pend.length
        · rw [List.getElem?_append_left hlt] at hi
          rw [List.take_append_of_le_length (by omega)]
          exact h.pd i p hi
        · have hi' := (List.getElem?_eq_some_iff.1 hi).1
          simp at hi'
          have : i = M.pend.length := by omega
          subst this
          simp at hi; subst hi
          rw [List.take_of_length_le (by simp; omega)]
          show x.num = _
          exact hcs.symm
      · intro i hi
        rw [hhas] at hi
        rw [ho, hcl i hi]
        by_cases ei : i = c
        · rw [if_pos ei]; exact (h.vw c hc).trans (List.prefix_append _ _)
        · rw [if_neg ei]; exact (h.vw i hi).trans (List.prefix_append _ _)
      · intro i hi v hv hne
        rw [hhas] at hi
        rw [hcl i hi, ho]
        by_cases ei : i = c
        · subst ei
          rw [if_pos rfl]
          rw [List.getElem?_set_self (by have := h.ok.n8; have := hi.2; omega)] at hv
          cases hv
          refine ⟨List.prefix_refl _, ?_, hcs, ?_⟩
          · simp [bch_toNat c0 c8]
          · have := h.nx0 i hi hempty
            show (cnt i (M.cli i).view : Int) < x.num
            omega
        · rw [if_neg ei]
          rw [List.getElem?_set_ne (has_ne hc hi (fun e => ei e.symm))] at hv
          obtain ⟨a, b⟩ := h.nx1 i hi v hv hne
          exact ⟨a.trans (List.prefix_append _ _), b⟩
      · intro i hi hv
        rw [hhas] at hi
        rw [hcl i hi]
        by_cases ei : i = c
        · subst ei
          rw [List.getElem?_set_self (by have := h.ok.n8; have := hi.2; omega)] at hv
          exact absurd (Option.some.inj hv) (by simp)
        · rw [if_neg ei]
          rw [List.getElem?_set_ne (has_ne hc hi (fun e => ei e.symm))] at hv
          exact h.nx0 i hi hv
      · intro i hi
        rw [hhas] at hi
        rw [ho, hcl i hi]
        by_cases ei : i = c
        · subst ei; rw [if_pos rfl]; exact hcs
        · rw [if_neg ei, cnt_append, cnt_one c0 c8, if_neg (fun e => ei e.symm)]
          exact h.ct i hi
theorem ans_after {x : Sub} {c : Int} : orderL (M.ans x).view (M.ans x).pending = M.order := by
  have e : (M.ans x).view = M.long ∧ (M.ans x).pending = M.pend.map M.ansP := by unfold ans; split <;> exact ⟨rfl, rfl⟩
  rw [e.1, e.2]
  simp [orderL, order, ansP, Function.comp_def]
theorem Ord.set (h : Ord M nx) {N : Reg} {c : Int} {v : List UInt8} {t : Dig} (hc : M.has c) (hv : nx[c.toNat]? = some v) (hv0 : v ≠ []) (hok : N.Ok) (hn : N.n = M.n) (ho : N.order = M.order)
    (hcl : ∀ i, M.has i → N.cli i = if i = c then { M.cli c with view := v, tag := t } else M.cli i)
    (hpd : ∀ (i : Nat) p, N.pend[i]? = some p → p.num = cnt p.client (M.order.take (N.long.length + i + 1))) : Ord N (nx.set c.toNat []) := by
  have hhas : ∀ i, N.has i ↔ M.has i := fun i => by unfold has; rw [hn]
  obtain ⟨v1, v2, v3, v4⟩ := h.nx1 c hc v hv hv0
  have hnl := h.nl
  refine ⟨hok, by rw [hn]; simpa using h.nl, by rw [ho]; exact h.ol, by rw [ho]; exact h.ob, by rw [ho]; exact hpd, ?_, ?_, ?_, ?_⟩
  · intro i hi
    rw [hhas] at hi
    rw [ho, hcl i hi]
    by_cases ei : i = c
    · rw [if_pos ei]; exact v1
    · rw [if_neg ei]; exact h.vw i hi
  · intro i hi w hw hne
    rw [hhas] at hi
    rw [hcl i hi, ho]
    by_cases ei : i = c
    · subst ei
      rw [List.getElem?_set_self (by have := hi.2; have := hi.1; omega)] at hw
      exact absurd (Option.some.inj hw).symm hne
    · rw [if_neg ei]
      rw [List.getElem?_set_ne (has_ne hc hi (fun e => ei e.symm))] at hw
      exact h.nx1 i hi w hw hne
  · intro i hi hw
    rw [hhas] at hi
    rw [hcl i hi]
    by_cases ei : i = c
    · subst ei; rw [if_pos rfl]; exact v3
    · rw [if_neg ei]
      rw [List.getElem?_set_ne (has_ne hc hi (fun e => ei e.symm))] at hw
      exact h.nx0 i hi hw
  · intro i hi
    rw [hhas] at hi
    rw [ho, hcl i hi]
    by_cases ei : i = c
    · subst ei; rw [if_pos rfl]; exact h.ct i hi
    · rw [if_neg ei]; exact h.ct i hi
theorem Ord.commit (h : Ord M nx) {c : Int} {v : List UInt8} {t : Dig} (hc : M.has c) (hv : nx[c.toNat]? = some v) (hv0 : v ≠ []) :
    (M.commit c v t).2 = 0 ∧ (M.commit c v t).1.order = M.order ∧ Ord (M.commit c v t).1 (nx.set c.toNat []) := by
  obtain ⟨v1, v2, v3, v4⟩ := h.nx1 c hc v hv hv0
  have hol := h.ol
  have hvl := v1.length_le
  have c8 : c < 8 := by have := hc.2; have := h.ok.n8; omega
  have hok : (comM c v t).Ok := by
    refine ⟨?_, ⟨hc.1, by show c ≤ 7; omega⟩, ?_⟩
    · have : v ≠ [] ∧ ViewOk 8 v := ⟨hv0, fun b hb => h.ob b (v1.subset hb), by omega, by omega, by omega⟩
      simpa [Msg.FieldsOk, comM] using this
    · simp [Msg.own_, comM, msg0]
  have hb : ¬ (¬ (comM c v t).Ok ∨ ¬ M.has c) := fun e => e.elim (fun e => e hok) fun e => e hc
  have e1 : ¬ (((v.getLast?.getD 0).toNat : Int) ≠ c ∨ (cnt c v : Int) ≠ (M.cli c).last.num) := fun e => e.elim (fun e => e v2) fun e => e v3
  have e2 : ¬ (cnt c (M.cli c).view = cnt c v) := by omega
  have hcok := commit_ok (M := M) h.ok (n := c) (v := v) (t := t)
  have hset : ∀ i, M.has i → (M.setC c { M.cli c with view := v, tag := t }).cli i = if i = c then { M.cli c with view := v, tag := t } else M.cli i := fun i hi => cli_setC h.ok hc hi
  by_cases e3 : v.length ≤ M.long.length
  · have e : M.commit c v t = (M.setC c { M.cli c with view := v, tag := t }, 0) := by unfold Reg.commit; rw [if_neg hb, if_neg e1, if_neg e2, if_pos e3]
    rw [e] at hcok ⊢
    exact ⟨rfl, rfl, h.set hc hv hv0 hcok rfl rfl hset h.pd⟩
  · have e : M.commit c v t = ({ M.setC c { M.cli c with view := v, tag := t } with by_ := c, long := v, tag := t, pend := cut c (cnt c v) M.pend }, 0) := by unfold Reg.commit; rw [if_neg hb, if_neg e1, if_neg e2, if_neg e3]
    have hvt : v = M.order.take v.length := (List.prefix_iff_eq_take.1 v1)
    have hlen := order_length (M := M)
    obtain ⟨m, hm⟩ : ∃ m, v.length = M.long.length + m + 1 := ⟨v.length - M.long.length - 1, by omega⟩
    obtain ⟨p, hp, hpm⟩ := get_of_lt (l := M.pend) (i := m) (by omega)
    have hpc := h.ok.cl p hpm
    have hn8 := h.ok.n8
    have hbm : M.order[M.long.length + m]? = some (bch p.client) := by
      unfold order orderL
      rw [List.getElem?_append_right (by omega), List.getElem?_map, show M.long.length + m - M.long.length = m by omega, hp]; rfl
    have hlast : v.getLast? = some (bch p.client) := by
      rw [List.getLast?_eq_getElem?, show v.length - 1 = M.long.length + m by omega]
      rw [hvt, List.getElem?_take, if_pos (by rw [hm]; omega)]; exact hbm
    have hpcc : p.client = c := by
      rw [hlast] at v2
      simp only [Option.getD_some] at v2
      rw [bch_toNat hpc.1 (by omega)] at v2; exact v2
    have hpn : p.num = cnt c v := by
      have := h.pd m p hp
      rw [hpcc, ← hm, ← hvt] at this; exact this
    have hcut : cut c (cnt c v) M.pend = M.pend.drop (m + 1) := by
      refine cut_at hp ⟨hpcc, hpn⟩ fun i hi q hq ⟨q1, q2⟩ => ?_
      have q3 := h.pd i q hq
      rw [q1, q2] at q3
      have q4 := cnt_mono (c := c) (h := M.order) (i := M.long.length + i + 1) (j := M.long.length + m) (by omega)
      have q5 := cnt_take (c := c) hbm
      rw [← hm, ← hvt, hpcc] at q5
      have : isC c (bch c) = true := by simp [isC, bch_toNat hc.1 c8]
      rw [if_pos this] at q5
      omega
    rw [e] at hcok ⊢
    rw [hcut] at hcok ⊢
    have ho : orderL v (M.pend.drop (m + 1)) = M.order := by
      have : M.order.drop v.length = (M.pend.drop (m + 1)).map fun p => bch p.client := by
        unfold order orderL
        rw [List.drop_append, List.drop_eq_nil_of_le (by omega), List.nil_append, ← List.map_drop, show v.length - M.long.length = m + 1 by omega]
      unfold orderL
      rw [← this]
      conv => lhs; lhs; rw [hvt]
      exact List.take_append_drop _ _
    refine ⟨rfl, ho, h.set hc hv hv0 hcok rfl ho hset ?_⟩
    intro i q hq
    have hq' : M.pend[m + 1 + i]? = some q := by rw [← List.getElem?_drop]; exact hq
    have := h.pd _ q hq'
    rw [this]
    show ((cnt q.client (M.order.take (M.long.length + (m + 1 + i) + 1)) : Nat) : Int) = ((cnt q.client (M.order.take (v.length + i + 1)) : Nat) : Int)
    rw [show M.long.length + (m + 1 + i) + 1 = v.length + i + 1 by omega]
theorem reg0_cli {n i : Int} : (reg0 n).cli i = cli0 := by
  unfold cli reg0
  rw [List.getElem?_replicate]
  split <;> rfl
theorem reg0_ord {n : Int} (h2 : 2 ≤ n) (h8 : n ≤ 8) : Ord (reg0 n) (List.replicate n.toNat []) := by
  refine ⟨reg0_ok h2 h8, by simp [reg0], by simp [order, orderL, reg0], by simp [order, orderL, reg0], by simp [reg0], fun c _ => by rw [reg0_cli]; exact List.nil_prefix, ?_, fun c _ _ => by rw [reg0_cli]; rfl, fun c _ => by rw [reg0_cli]; rfl⟩
  intro c _ v hv hne
  rw [List.getElem?_replicate] at hv
  split at hv
  · exact absurd (Option.some.inj hv).symm hne
  · cases hv
end Reg
end Go.Aff.L10

/- Layer 12, walked: RegsOrder. -/
-- cuts
namespace Go.Aff.L10
open Go.Proofs Go.Aff Go.Aff.L01 Classical
set_option linter.unusedVariables false
set_option linter.unusedSimpArgs false
set_option maxRecDepth 20000
attribute [local go_sem] push_app app_app length_app cellAt_app cellAt_app0 set_app set_app0 objs_app objs_app0 List.cons_append List.nil_append List.length_cons List.length_nil List.getElem?_cons_zero List.getElem?_cons_succ List.set_cons_zero List.set_cons_succ List.length_map
attribute [-go_sem] cellAt_new
attribute [-simp] List.length_flatMap
attribute [local go_sem] Try.underlying3 Try.underlying4 Try.underlying5 Try.underlying9 Try.underlying31 Try.underlying32 Try.underlying41 Try.underlying75 Try.underlying24 Try.underlying81 subPs_0 subAt_0 subSet_0 subPs_1 subAt_1 subSet_1 subPs_2 subAt_2 subSet_2 subPs_3 subAt_3 subSet_3 subPs_4 subAt_4 subSet_4 subPs_5 subAt_5 subSet_5 sizes_sub shapes_sub fits_sub zero_sub zt_sub built_sub Try.underlying34 pendPs_0 pendAt_0 pendSet_0 pendPs_1 pendAt_1 pendSet_1 pendPs_2 pendAt_2 pendSet_2 pendPs_3 pendAt_3 pendSet_3 pendPs_4 pendAt_4 pendSet_4 pendPs_5 pendAt_5 pendSet_5 sizes_pend shapes_pend fits_pend zero_pend zt_pend built_pend Try.underlying70 repPs_0 repAt_0 repSet_0 repPs_1 repAt_1 repSet_1 repPs_2 repAt_2 repSet_2 repPs_3 repAt_3 repSet_3 repPs_4 repAt_4 repSet_4 repPs_5 repAt_5 repSet_5 repPs_6 repAt_6 repSet_6 repPs_7 repAt_7 repSet_7 repPs_8 repAt_8 repSet_8 repPs_9 repAt_9 repSet_9 sizes_rep shapes_rep fits_rep zero_rep zt_rep built_rep Try.underlying43 blobPs_0 blobAt_0 blobSet_0 blobPs_1 blobAt_1 blobSet_1 blobPs_2 blobAt_2 blobSet_2 blobPs_3 blobAt_3 blobSet_3 sizes_blob shapes_blob fits_blob zero_blob zt_blob built_blob Try.underlying74 msgPs_0 msgAt_0 msgSet_0 msgPs_1 msgAt_1 msgSet_1 msgPs_2 msgAt_2 msgSet_2 msgPs_3 msgAt_3 msgSet_3 msgPs_4 msgAt_4 msgSet_4 msgPs_5 msgAt_5 msgSet_5 msgPs_6 msgAt_6 msgSet_6 msgPs_7 msgAt_7 msgSet_7 msgPs_8 msgAt_8 msgSet_8 msgPs_9 msgAt_9 msgSet_9 sizes_msg shapes_msg fits_msg zero_msg zt_msg built_msg Try.underlying77 at_Ps_0 at_Set_0 at_Ps_1 at_Set_1 sizes_at_ shapes_at_
attribute [local go_sem] fits3 fits4 fits5 fits9 fits23 fits26 fits31 fits34 fits52 zt3 zero3 zt34 zero34 zt23 zero23 bin_sub_eql bin_pend_eql bin_pend_neq bin_blob_eql bin_dig23_eql bin_dig23_neq slice23
attribute [local go_sem ↓] blockQ_exit2
attribute [local simp] dig_ext
attribute [local go_sem] cliPs_0 cliAt_0 cliSet_0 cliPs_1 cliAt_1 cliSet_1 cliPs_2 cliAt_2 cliSet_2 cliPs_3 cliAt_3 cliSet_3 sizes_cli shapes_cli fits_cli zero_cli zt_cli built_cli actPs_0 actAt_0 actSet_0 actPs_1 actAt_1 actSet_1 actPs_2 actAt_2 actSet_2 actPs_3 actAt_3 actSet_3 actPs_4 actAt_4 actSet_4 sizes_act shapes_act fits_act zero_act zt_act built_act rgPs_0 rgPs_1 rgPs_2 rgPs_3 rgPs_4 rgPs_5 rgSet_0 rgSet_2 rgSet_3 rgSet_4 rgSet_5 rgAt_0 rgAt_1 fits_rg zero_rg zt_rg built_rg fits66 rrgPs_0 rrgSet_0 rrgAt_0 rrgPs_1 rrgSet_1 rrgAt_1 rrgPs_2 rrgSet_2 rrgAt_2 rrgPs_3 rrgSet_3 rrgAt_3 rrgPs_4 rrgSet_4 rrgAt_4 rrgPs_5 rrgSet_5 rrgAt_5 rrgPs_6 rrgSet_6 rrgAt_6 rrgPs_7 rrgSet_7 rrgAt_7 sizes_rrg shapes_rrg fits_rrg zero_rrg zt_rrg built_rrg fits57 fits58 fits39 fits59 fits23r fits41 arrV_none arrV_some arrV_size arrV_agg arrV_shape Try.underlying22 Try.underlying23 Try.underlying28 Try.underlying36 Try.underlying39 Try.underlying57 Try.underlying58 Try.underlying59 Try.underlying61 Try.underlying65 Try.underlying66 Try.underlying68 Try.underlying78
attribute [local go_sem] isAgg_arr size_arr shape_arr known_arr
/-- The register in memory, and what each client was answered. -/
structure OS (σ0 s : AST) (j e : Nat) (M : Reg) (nx : List (List UInt8)) (F : List (Nat × AObj)) : Prop where
  p : ∃ R, R.plain = M ∧ PF σ0 s j R (F ++ [(e, .cells (.agg (nx.map .str)))])
  e0 : σ0.objs.length ≤ e
section
variable {σ0 s s2 : AST} {j e : Nat} {M : Reg} {nx : List (List UInt8)} {F : List (Nat × AObj)} {K : AV → AST → Prop}
theorem OS.x (h : OS σ0 s j e M nx F) : Ext σ0 s := by obtain ⟨R, _, hP⟩ := h.p; exact hP.x
theorem OS.o (h : OS σ0 s j e M nx F) : s.objs[e]? = some (.cells (.agg (nx.map .str))) := by
  obtain ⟨R, _, hP⟩ := h.p; exact (hP.f (e, _) (by simp)).2
theorem OS.f (h : OS σ0 s j e M nx F) : ∀ x ∈ F, s.objs[x.1]? = some x.2 := by
  obtain ⟨R, _, hP⟩ := h.p; exact fun x hx => (hP.f x (by simp [hx])).2
theorem OS.ext (h : OS σ0 s j e M nx F) (hx : Ext s s2) : OS σ0 s2 j e M nx F := by
  obtain ⟨R, hR, hP⟩ := h.p; exact ⟨⟨R, hR, hP.ext hx⟩, h.e0⟩
theorem OS.lt (h : OS σ0 s j e M nx F) : j < s.objs.length ∧ e < s.objs.length ∧ σ0.objs.length ≤ s.objs.length := by
  obtain ⟨R, _, hP⟩ := h.p
  obtain ⟨t, o⟩ := hP.o
  obtain ⟨O, T, rfl⟩ := hP.x
  exact ⟨(List.getElem?_eq_some_iff.1 o).1, (List.getElem?_eq_some_iff.1 h.o).1, by simp⟩
theorem OS.box (h : OS σ0 s j e M nx F) (o : AObj) : OS σ0 (s.app [o]) j e M nx ((s.objs.length, o) :: F) := by
  have hl := h.lt
  obtain ⟨R, hR, hP⟩ := h.p
  exact ⟨⟨R, hR, (hP.ext (Ext.app _ _)).more objs_app0 (by omega)⟩, h.e0⟩
theorem OS.less {y : Nat × AObj} (h : OS σ0 s j e M nx (y :: F)) : OS σ0 s j e M nx F := by
  obtain ⟨R, hR, hP⟩ := h.p; exact ⟨⟨R, hR, hP.less⟩, h.e0⟩
theorem OS.setF {c : Nat} {o o' : AObj} (h : OS σ0 s j e M nx ((c, o) :: F)) (hi : σ0.objs.length ≤ c) (hce : c ≠ e) (hf : ∀ x ∈ F, x.1 ≠ c) : OS σ0 (s.set c o') j e M nx ((c, o') :: F) := by
  obtain ⟨R, hR, hP⟩ := h.p
  have hc := hP.f _ (List.mem_cons_self ..)
  have hl := (List.getElem?_eq_some_iff.1 hc.2).1
  refine ⟨⟨R, hR, (PF.less (y := (c, o)) hP |>.setN hi hc.1.symm fun x hx => ?_).more (objs_setS hl) hc.1⟩, h.e0⟩
  rcases List.mem_append.1 hx with hx | hx
  · exact hf x hx
  · simp at hx; subst hx; exact Ne.symm hce
theorem OS.put {n : Nat} {v : List UInt8} (h : OS σ0 s j e M nx []) : OS σ0 (s.set e (.cells (.agg ((nx.set n v).map .str)))) j e M (nx.set n v) [] := by
  obtain ⟨R, hR, hP⟩ := h.p
  have hP1 : PF σ0 s j R [(e, .cells (.agg (nx.map .str)))] := hP
  have hc := hP1.f _ (List.mem_cons_self ..)
  have hl := (List.getElem?_eq_some_iff.1 hc.2).1
  have h2 : PF σ0 (s.set e (.cells (.agg ((nx.set n v).map .str)))) j R [(e, .cells (.agg ((nx.set n v).map .str)))] := (hP1.less.setN h.e0 hc.1.symm fun x hx => by simp at hx).more (objs_setS hl) hc.1
  exact ⟨⟨R, hR, h2⟩, h.e0⟩
theorem OS.idxN (h : OS σ0 s j e M nx F) {i m : Nat} {v : List UInt8} (hv : nx[i]? = some v) (hm : m = nx.length) {q : IntKind} {KV : AV → Prop} (hK : KV (.ptr (some (e, [i])))) : indexAddrW Try.prog s 39 (.arr e [] m) (.int q i) KV :=
  index_arr (f := .str) (e := 9) (sz := 1) Try.underlying39 (by kernel_rfl) (fun x => rfl) (fun x => by simp [fits9, AV.isAgg, AV.size]) h.o hm hv hK
theorem OS.idx (h : OS σ0 s j e M nx F) {c : Int} {m : Nat} (hc : 0 ≤ c) {v : List UInt8} (hv : nx[c.toNat]? = some v) (hm : m = nx.length) {q : IntKind} {KV : AV → Prop} (hK : KV (.ptr (some (e, [c.toNat])))) : indexAddrW Try.prog s 39 (.arr e [] m) (.int q c) KV := by
  have e1 : ((c.toNat : Nat) : Int) = c := Int.toNat_of_nonneg hc
  rw [← e1]; exact h.idxN hv hm hK
theorem OS.at (h : OS σ0 s j e M nx F) {i : Nat} {v : List UInt8} (hv : nx[i]? = some v) (q : List Nat) : cellAt s e (i :: q) = (AV.str v).at q := by
  rw [cellAt_known h.o, arr_at (f := .str) hv]
theorem oSubmit_c (h : OS σ0 s j e M nx F) (hM : M.Ok) {n : Int} {x : Sub} (hK : ∀ t s', OS σ0 s' j e (M.submit n x).1 nx F → K (.tuple [repV t (M.submit n x).2.1, .int .i64 (M.submit n x).2.2]) s') :
    TCalls Try.prog 13 [.ptr (some (j, [])), .int .i64 n, subV x] s K := by
  obtain ⟨R, rfl, hP⟩ := h.p
  exact rgSubmit_c hP hM fun t s' R' hR' hP' => hK t s' ⟨⟨R', hR', hP'⟩, h.e0⟩
theorem oCommit_c (h : OS σ0 s j e M nx F) (hM : M.Ok) {n : Int} {v : List UInt8} {t : Dig} (hK : ∀ s', OS σ0 s' j e (M.commit n v t).1 nx F → K (.int .i64 (M.commit n v t).2) s') :
    TCalls Try.prog 15 [.ptr (some (j, [])), .int .i64 n, .str v, .dig t] s K := by
  obtain ⟨R, rfl, hP⟩ := h.p
  exact rgCommit_c hP hM fun s' R' hR' hP' => hK s' ⟨⟨R', hR', hP'⟩, h.e0⟩
theorem oOrder_c (h : OS σ0 s j e M nx F) (hM : M.Ok) (hK : K (.str M.order) s) : TCalls Try.prog 16 [.ptr (some (j, []))] s K := by
  obtain ⟨R, rfl, hP⟩ := h.p
  exact order_c hP (ok_plain hM) hK
theorem cli_of {R : Rg} (h : R.plain.Ok) {c : Int} (hc : R.plain.has c) : ∃ y, R.cs[c.toNat]? = some y ∧ y.2 = R.plain.cli c := by
  have h1 := h.has8 hc
  have h2 : c.toNat < R.cs.length := by simpa [Rg.plain] using h1
  refine ⟨R.cs[c.toNat], List.getElem?_eq_getElem h2, ?_⟩
  simp [Reg.cli, Rg.plain, List.getElem?_eq_getElem h2]
theorem oNumber_c (h : OS σ0 s j e M nx F) (hM : M.Ok) {c : Int} (hc : M.has c) (hK : K (.int .i64 (M.cli c).last.num) s) : TCalls Try.prog 12 [.ptr (some (j, [])), .int .i64 c] s K := by
  obtain ⟨R, rfl, hP⟩ := h.p
  obtain ⟨y, hy, he⟩ := cli_of hM hc
  have e1 : ((c.toNat : Nat) : Int) = c := Int.toNat_of_nonneg hc.1
  rw [← he] at hK
  rw [← e1]
  exact rgNumber_c hP hy (by rw [e1]; exact hc.2) hK
theorem oView_c (h : OS σ0 s j e M nx F) (hM : M.Ok) {c : Int} (hc : M.has c) (hK : K (.str (M.cli c).view) s) : TCalls Try.prog 18 [.ptr (some (j, [])), .int .i64 c] s K := by
  obtain ⟨R, rfl, hP⟩ := h.p
  obtain ⟨y, hy, he⟩ := cli_of hM hc
  have e1 : ((c.toNat : Nat) : Int) = c := Int.toNat_of_nonneg hc.1
  rw [← he] at hK
  rw [← e1]
  exact rgView_c hP hy (by rw [e1]; exact hc.2) hK
end
end Go.Aff.L10

