import Derived.Test.YtikbkaedemmpmaaGreatG18
import Derived.Test.YtikbkaedemmpmaaGreatG8

set_option linter.unusedSimpArgs false
set_option linter.unusedVariables false

namespace Go.Aff.L10
open Go.Proofs Go.Aff Go.Aff.L01 Classical
set_option maxRecDepth 20000
attribute [-go_sem] cellAt_new
attribute [-simp] List.length_flatMap
attribute [local go_sem] subPs_0 subAt_0 Tryz.underlying34
attribute [local go_sem] fits3 fits9
attribute [local go_sem] fits28p fits24 srvPs_1 srvPs_2 srvAt_1 srvAt_2 Tryz.underlying68 Tryz.underlying23
attribute [local go_sem] rrgPs_0 rrgAt_0 rrgPs_2 rrgAt_2 fits57 fits23r arrV_none arrV_some Tryz.underlying84
attribute [local go_sem] rfPs_0 rfPs_1 rfAt_0 rfAt_1 fits71p fits73p Tryz.underlying78
attribute [local go_sem] isAgg_arr size_arr shape_arr known_arr
section
variable {σ0 s : AST} {A : Ads} {n : Int} {M N : Reg} {B C : List Blob} {F : List (Nat × AObj)} {K : AV → AST → Prop}
theorem svRegs_c (h : Sv σ0 s A n M N B C F) (hK : K (.ptr (some (A.j, []))) s) : TCalls Tryz.prog 15 [.ptr (some (A.q, []))] s K := by
  have cq := cellAt_known h.q
  refine tcalls_walk Tryz.f15 _ [.tmp 2] Tryz.func15 rfl rfl rfl mixed (Nat.le_of_ble_eq_true rfl) rfl fun hlen => ?_
  repeat' (simp -dsimp only [↓reduceIte, go_sem, cq])
  exact hK
theorem svBlobs_c (h : Sv σ0 s A n M N B C F) (hK : K (.ptr (some (A.b, []))) s) : TCalls Tryz.prog 18 [.ptr (some (A.q, []))] s K := by
  have cq := cellAt_known h.q
  refine tcalls_walk Tryz.f18 _ [.tmp 2] Tryz.func18 rfl rfl rfl mixed (Nat.le_of_ble_eq_true rfl) rfl fun hlen => ?_
  repeat' (simp -dsimp only [↓reduceIte, go_sem, cq])
  exact hK
theorem svNumber_c (h : Sv σ0 s A n M N B C F) (hM : M.Ok) {i : Int} (hi : M.has i) (hK : K (.int .i64 (M.cli i).last.num) s) : TCalls Tryz.prog 16 [.ptr (some (A.j, [])), .int .i64 i] s K := by
  obtain ⟨R, hR, hP⟩ := h.r.p
  have hRn : R.n = M.n := by rw [← hR]; rfl
  have hi0 := hi.1
  have hi1 := hi.2
  have hn8 := hM.n8
  have e : ((i.toNat : Nat) : Int) = i := Int.toNat_of_nonneg hi0
  obtain ⟨tc, hc⟩ := cli_get hP.h8 hi0 (by omega)
  have hcl : cliOf R i = M.cli i := by rw [← hR]; exact cliOf_plain
  rw [hcl] at hc
  have := rgNumber_c (K := K) hP hc (by rw [e]; omega) hK
  rw [e] at this; exact this
theorem svView_c (h : Sv σ0 s A n M N B C F) (hM : M.Ok) {i : Int} (hi : M.has i) (hK : K (.str (M.cli i).view) s) : TCalls Tryz.prog 17 [.ptr (some (A.j, [])), .int .i64 i] s K := by
  obtain ⟨R, hR, hP⟩ := h.r.p
  have hRn : R.n = M.n := by rw [← hR]; rfl
  have hi0 := hi.1
  have hi1 := hi.2
  have hn8 := hM.n8
  have e : ((i.toNat : Nat) : Int) = i := Int.toNat_of_nonneg hi0
  obtain ⟨tc, hc⟩ := cli_get hP.h8 hi0 (by omega)
  have hcl : cliOf R i = M.cli i := by rw [← hR]; exact cliOf_plain
  rw [hcl] at hc
  have := rgView_c (K := K) hP hc (by rw [e]; omega) hK
  rw [e] at this; exact this
theorem svOrder_c (h : Sv σ0 s A n M N B C F) (hM : M.Ok) (hK : K (.str (orderL M.long M.pend)) s) : TCalls Tryz.prog 44 [.ptr (some (A.j, []))] s K := by
  obtain ⟨R, rfl, hP⟩ := h.r.p
  exact order_c hP (ok_plain hM) hK
theorem lawState_c (h : Sv σ0 s A n M M B B F) (hM : M.Ok) (hB : BOk B) (hK : ∀ s', Ext s s' → K (.bool true) s') : TCalls Tryz.prog 14 [.ptr (some (A.q, [])), .ptr (some (A.x, []))] s K := by
  have e3 : decide (numsB B = numsB B) = true := by simp
  refine tcalls_walk Tryz.f14 _ [.tmp 4] Tryz.func14 rfl rfl rfl mixed (Nat.le_of_ble_eq_true rfl) rfl fun hlen => ?_
  repeat' (simp -dsimp only [↓reduceIte, go_sem])
  refine awp_rounds (fun (i : Nat) τ s' => i ≤ 8 ∧ Ext s s' ∧ τ 0 = .ptr (some (A.q, [])) ∧ τ 1 = .ptr (some (A.x, [])) ∧ τ 5 = .int .i64 i) (fun i => 8 - i) 0 ?_ ?_
  · refine ⟨by omega, Ext.refl _, ?_, ?_, ?_⟩ <;> (try simp only [go_sem]) <;> (try rfl)
  · rintro i τ s' ⟨hi, hx, t0, t1, t5⟩
    have h1 := h.ext hx
    have cx := cellAt_known h1.x
    have w1 : IntKind.i64.wrap ((i : Int) + 1) = (i : Int) + 1 := wrap_i64 (by omega) (by omega)
    by_cases hlt : i < 8
    · have hlt1 : (i : Int) < 8 := by omega
      have hdt : decide (numsB B (i : Int) = numsB B (i : Int)) = true := decide_eq_true rfl
      repeat' (first | (simp -dsimp only [↓reduceIte, go_sem, t0, t1, t5, hlt1, cx]) | (refine later_intro ⟨keeps_refl, ?_⟩) | (with_reducible refine awp_drawU (id := 4) (.op 0 2 (.op 2 0 (.op 4 0 (.op 5 0 (.op 6 0 (.op 7 0 (.op 8 0 (.op 1 1 (.op 3 1 (.cut (.op 9 1 (.op 10 3 (.op 11 2 .nil))))))))))))) (by kernel_rfl) ?_) | ((refine svBlobs_c h1 ?_)) | ((refine snum_c h1.t.p hB ?_)) | fail)
      refine rnum_c h1.t.q hB fun s2 tk hx2 => ?_
      have h2 := h1.ext hx2
      have cx2 := cellAt_known h2.x
      obtain ⟨tq, ok⟩ := h2.qf.o
      have ck := cellAt_known ok
      by_cases hi2 : M.has (i : Int)
      · have hiR : M.rm.has (i : Int) := hi2
        have hi0 : 0 ≤ (i : Int) := hi2.1
        have hi1 : (i : Int) < M.rm.n := hi2.2
        have A1 : ∀ q, cellAt s2 A.i1 (i :: q) = (AV.agg (subPs (M.cli i).last)).at q := fun q => by rw [cellAt_known h2.qf.o1, arr_at (f := fun x => AV.agg (subPs x)) (i := i) (by have := h2.qf.sub hiR; rwa [Int.toNat_natCast] at this), Reg.rm_sub hM hi2]
        have A3 : ∀ q, cellAt s2 A.i3 (i :: q) = (AV.str (M.cli i).view).at q := fun q => by rw [cellAt_known h2.qf.o3, arr_at (i := i) (by have := h2.qf.view hiR; rwa [Int.toNat_natCast] at this), Reg.rm_view hM hi2]
        repeat' (first | (simp -dsimp only [↓reduceIte, go_sem, t0, t1, t5, cx2, ck, hdt, hi0, hi1, A1, A3, w1]) | (refine later_intro ⟨keeps_nil, ?_⟩) | (refine later_intro ⟨keeps_refl, ?_⟩) | ((refine ints_c ?_)) | (with_reducible refine awp_drawU (id := 6) (.op 0 2 (.op 1 2 (.op 2 2 (.op 3 2 (.op 4 2 (.op 5 1 (.op 6 2 (.op 7 2 (.op 9 0 (.op 11 0 (.op 12 0 (.op 13 0 (.op 14 0 (.op 15 0 (.op 16 0 (.op 17 0 (.op 18 0 (.op 19 0 (.op 20 0 (.op 21 0 (.op 8 1 (.op 10 1 (.cut (.op 22 2 (.op 23 2 (.op 24 2 (.op 26 0 (.op 28 0 (.op 29 0 (.op 30 0 (.op 31 0 (.op 32 0 (.op 33 0 (.op 34 0 (.op 35 0 (.op 36 0 (.op 37 0 (.op 25 1 (.op 27 1 (.op 38 2 (.op 39 2 (.op 40 2 .nil)))))))))))))))))))))))))))))))))))))))))) (by kernel_rfl) ?_) | ((refine refIs_c h2.qf ?_)) | ((refine svRegs_c h2 ?_)) | ((refine svNumber_c h2 hM hi2 ?_)) | ((refine svView_c h2 hM hi2 ?_)) | (refine idx1 h2.qf hiR ?_) | (refine idx3 h2.qf hiR ?_) | fail)
        all_goals first
          | (exfalso; omega)
          | (refine later_intro ⟨i + 1, by omega, by omega, hx.trans hx2, ?_, ?_, ?_⟩ <;> (try simp only [go_sem, t0, t1, t5]) <;> (try rfl))
      · have hiR : (0 ≤ (i : Int) ∧ (i : Int) < M.rm.n) = False := eq_false hi2
        repeat' (first | (simp -dsimp only [↓reduceIte, go_sem, t0, t1, t5, cx2, ck, hdt, hiR, w1]) | (refine later_intro ⟨keeps_nil, ?_⟩) | ((refine ints_c ?_)) | (with_reducible refine awp_drawU (id := 6) (.op 0 2 (.op 1 2 (.op 2 2 (.op 3 2 (.op 4 2 (.op 5 1 (.op 6 2 (.op 7 2 (.op 9 0 (.op 11 0 (.op 12 0 (.op 13 0 (.op 14 0 (.op 15 0 (.op 16 0 (.op 17 0 (.op 18 0 (.op 19 0 (.op 20 0 (.op 21 0 (.op 8 1 (.op 10 1 (.cut (.op 22 2 (.op 23 2 (.op 24 2 (.op 26 0 (.op 28 0 (.op 29 0 (.op 30 0 (.op 31 0 (.op 32 0 (.op 33 0 (.op 34 0 (.op 35 0 (.op 36 0 (.op 37 0 (.op 25 1 (.op 27 1 (.op 38 2 (.op 39 2 (.op 40 2 .nil)))))))))))))))))))))))))))))))))))))))))) (by kernel_rfl) ?_) | ((refine refIs_c h2.qf ?_)) | fail)
        all_goals first
          | (refine absurd ?_ hi2; assumption)
          | (refine later_intro ⟨i + 1, by omega, by omega, hx.trans hx2, ?_, ?_, ?_⟩ <;> (try simp only [go_sem, t0, t1, t5]) <;> (try rfl))
    · have hlt1 : ¬ (i : Int) < 8 := by omega
      have hord : orderL M.rm.long M.rm.pend = orderL M.long M.pend := rfl
      have hdo : (orderL M.long M.pend == orderL M.long M.pend) = true := by simp
      repeat' (first | (simp -dsimp only [↓reduceIte, go_sem, t0, t1, t5, hlt1, cx, hord, hdo]) | (refine later_intro ⟨keeps_nil, ?_⟩) | (refine later_intro ⟨keeps_refl, ?_⟩) | (with_reducible refine awp_drawU (id := 8) (.op 0 2 (.op 3 0 (.op 4 0 (.op 5 0 (.op 6 0 (.op 1 1 (.op 2 1 (.cut (.op 7 1 (.op 8 2 (.op 9 2 .nil))))))))))) (by kernel_rfl) ?_) | ((refine svRegs_c h1 ?_)) | ((refine svOrder_c h1 hM ?_)) | ((refine refOrder_c h1.qf hM.pl hM.ll hM.cl ?_)) | fail)
      exact hK _ hx
end
end Go.Aff.L10

namespace Go.Aff.L10
open Go.Proofs Go.Aff Go.Aff.L01 Classical
structure Reg.Fine (M : Reg) : Prop where
  by_ : In (-1) 7 M.by_
  bl : M.long = [] ↔ M.by_ = -1
  long : ViewOk 8 M.long
  pend : ∀ p ∈ M.pend, p.Ok
  cs : ∀ c ∈ M.cs, ViewOk 8 c.view ∧ In 0 512 c.last.num ∧ c.last.value.length ≤ 256 ∧ (0 < c.last.num → c.reply.Ok)
theorem view_nil : ViewOk 8 [] := ⟨by simp, by simp, by omega, by omega⟩
namespace Reg
variable {M : Reg} {n : Int} {x : Sub} {v : List UInt8} {t : Dig}
theorem reg0_fine : (reg0 n).Fine := by
  refine ⟨by simp [In, reg0], by simp [reg0], view_nil, by simp [reg0], fun c hc => ?_⟩
  simp only [reg0] at hc
  obtain ⟨_, rfl⟩ := List.mem_replicate.1 hc
  exact ⟨view_nil, by simp [In, cli0, sub0], by simp [cli0, sub0], fun h => by simp [cli0, sub0] at h⟩
theorem ans_ok (hM : M.Ok) (hF : M.Fine) (hx : x.Ok) (ht : M.has x.target) : (M.ans x).Ok := by
  have hp : ∀ p ∈ M.pend.map M.ansP, p.Ok := fun p hp => by
    obtain ⟨q, hq, rfl⟩ := List.mem_map.1 hp
    exact hF.pend q hq
  have hl : (M.pend.map M.ansP).length ≤ 8 := by rw [List.length_map]; exact hM.pl
  obtain ⟨c1, c2, c3, c4⟩ := hF.cs _ (hM.cli_mem ht)
  unfold ans
  split
  · exact ⟨hp, hx.1, hF.by_, hF.bl, hl, hF.long, c1, c2, c3⟩
  · exact ⟨hp, hx.1, hF.by_, hF.bl, hl, hF.long, view_nil, by simp [In], by simp⟩
theorem sub_ok (h : (subM n x).Ok) : x.Ok := by have := h.1; simpa [Msg.FieldsOk, subM] using this
theorem com_ok (h : (comM n v t).Ok) : v ≠ [] ∧ ViewOk 8 v := by have := h.1; simpa [Msg.FieldsOk, comM] using this
theorem submit_cases (M : Reg) (n : Int) (x : Sub) : ((M.submit n x).1 = M ∧ (M.submit n x).2.2 ≠ 0) ∨
    (M.submit n x = (M, (M.cli n).reply, 0) ∧ (subM n x).Ok ∧ M.has n ∧ M.has x.target ∧ x = (M.cli n).last) ∨
    (M.submit n x = ({ M.setC n { M.cli n with last := x, reply := M.ans x } with pend := M.pend ++ [newP n x] }, M.ans x, 0) ∧ (subM n x).Ok ∧ M.has n ∧ M.has x.target) := by
  by_cases hb : ¬ (subM n x).Ok ∨ ¬ M.has n ∨ ¬ M.has x.target
  · left; unfold submit; rw [if_pos hb]; exact ⟨rfl, by simp⟩
  · have hok : (subM n x).Ok := Classical.byContradiction fun e => hb (.inl e)
    have hn : M.has n := Classical.byContradiction fun e => hb (.inr (.inl e))
    have hx : M.has x.target := Classical.byContradiction fun e => hb (.inr (.inr e))
    by_cases e1 : x.num = (M.cli n).last.num
    · by_cases e2 : x = (M.cli n).last
      · right; left; refine ⟨?_, hok, hn, hx, e2⟩; unfold submit; rw [if_neg hb, if_pos e1, if_pos e2]
      · left; unfold submit; rw [if_neg hb, if_pos e1, if_neg e2]; exact ⟨rfl, by simp⟩
    · by_cases e3 : x.num ≠ (M.cli n).last.num + 1
      · left; unfold submit; rw [if_neg hb, if_neg e1, if_pos e3]; exact ⟨rfl, by simp⟩
      · by_cases e4 : 512 ≤ M.order.length ∨ 8 ≤ M.pend.length
        · left; unfold submit; rw [if_neg hb, if_neg e1, if_neg e3, if_pos e4]; exact ⟨rfl, by simp⟩
        · right; right; refine ⟨?_, hok, hn, hx⟩; unfold submit; rw [if_neg hb, if_neg e1, if_neg e3, if_neg e4]
theorem has8 (hM : M.Ok) (hn : M.has n) : In 0 7 n := by have := hM.n8; obtain ⟨a, b⟩ := hn; simp only [In]; omega
theorem submit_fine (hM : M.Ok) (hF : M.Fine) : (M.submit n x).1.Fine := by
  rcases submit_cases M n x with ⟨e, _⟩ | ⟨e, _⟩ | ⟨e, hok, hn, hx⟩
  · rw [e]; exact hF
  · rw [e]; exact hF
  · rw [e]
    have hxo := sub_ok hok
    refine ⟨hF.by_, hF.bl, hF.long, fun p hp => ?_, fun c hc => ?_⟩
    · rcases List.mem_append.1 hp with hp | hp
      · exact hF.pend p hp
      · simp at hp; subst hp
        exact ⟨has8 hM hn, hxo.2.2.1, hxo.1, hxo.2.1⟩
    · rcases mem_setC hc with rfl | hc
      · have hv := (hF.cs _ (hM.cli_mem hn)).1
        have h1 := hxo.1
        exact ⟨hv, ⟨by have := h1.1; show 0 ≤ x.num; omega, h1.2⟩, hxo.2.2.2, fun _ => ans_ok hM hF hxo hx⟩
      · exact hF.cs c hc
theorem commit_cases (M : Reg) (n : Int) (v : List UInt8) (t : Dig) : (M.commit n v t).1 = M ∨
    ((comM n v t).Ok ∧ M.has n ∧ ¬ (((v.getLast?.getD 0).toNat : Int) ≠ n ∨ (Go.Aff.L09.cnt n v : Int) ≠ (M.cli n).last.num) ∧
      ((M.commit n v t).1 = M.setC n { M.cli n with view := v, tag := t } ∨
        (M.commit n v t).1 = { M.setC n { M.cli n with view := v, tag := t } with by_ := n, long := v, tag := t, pend := cut n (Go.Aff.L09.cnt n v) M.pend })) := by
  by_cases hb : ¬ (comM n v t).Ok ∨ ¬ M.has n
  · left; unfold commit; rw [if_pos hb]
  · have hok : (comM n v t).Ok := Classical.byContradiction fun e => hb (.inl e)
    have hn : M.has n := Classical.byContradiction fun e => hb (.inr e)
    by_cases e1 : ((v.getLast?.getD 0).toNat : Int) ≠ n ∨ (Go.Aff.L09.cnt n v : Int) ≠ (M.cli n).last.num
    · left; unfold commit; rw [if_neg hb, if_pos e1]
    · by_cases e2 : Go.Aff.L09.cnt n (M.cli n).view = Go.Aff.L09.cnt n v
      · left; unfold commit; rw [if_neg hb, if_neg e1, if_pos e2]
      · right
        refine ⟨hok, hn, e1, ?_⟩
        by_cases e3 : v.length ≤ M.long.length
        · left; unfold commit; rw [if_neg hb, if_neg e1, if_neg e2, if_pos e3]
        · right; unfold commit; rw [if_neg hb, if_neg e1, if_neg e2, if_neg e3]
theorem commit_fine (hM : M.Ok) (hF : M.Fine) : (M.commit n v t).1.Fine := by
  have hset : (comM n v t).Ok → M.has n → (M.setC n { M.cli n with view := v, tag := t }).Fine := fun hok hn => by
    refine ⟨hF.by_, hF.bl, hF.long, hF.pend, fun c hc => ?_⟩
    rcases mem_setC hc with rfl | hc
    · obtain ⟨_, c2, c3, c4⟩ := hF.cs _ (hM.cli_mem hn)
      exact ⟨(com_ok hok).2, c2, c3, c4⟩
    · exact hF.cs c hc
  rcases commit_cases M n v t with e | ⟨hok, hn, _, e | e⟩
  · rw [e]; exact hF
  · rw [e]; exact hset hok hn
  · rw [e]
    have h := hset hok hn
    have h8 := has8 hM hn
    refine ⟨⟨by have := h8.1; show -1 ≤ n; omega, h8.2⟩, ?_, (com_ok hok).2, fun p hp => hF.pend p (cut_sub.subset hp), h.cs⟩
    have := (com_ok hok).1
    have := h8.1
    constructor
    · intro e; exact absurd e (by assumption)
    · intro e; simp only at e; omega
end Reg
section
variable {M : Reg} {B : List Blob} {c : Int} {b : List UInt8}
theorem onR_fine (hM : M.Ok) (hF : M.Fine) : (onR M c b).Fine := by
  unfold onR
  split
  · split
    · exact Reg.submit_fine hM hF
    · split
      · exact Reg.commit_fine hM hF
      · exact hF
  · exact hF
noncomputable def own (B : List Blob) (o : Int) : List Blob := B.filter fun b => decide (b.owner = o)
end
end Go.Aff.L10

namespace Go.Aff.L10
open Go.Proofs Go.Aff Go.Aff.L01 Classical
set_option maxRecDepth 20000
attribute [-go_sem] cellAt_new
attribute [-simp] List.length_flatMap
attribute [local go_sem] fits3
attribute [local go_sem] fits28p srvPs_0 srvPs_1 srvPs_2 srvSet_0 srvSet_1 srvSet_2 srvAt_0 srvAt_1 srvAt_2 zero_srv zt_srv built_srv
attribute [local go_sem] fits23r arrV_none arrV_some
attribute [local go_sem] zero_rst zt_rst built_rst
attribute [local go_sem] rfPs_0 rfPs_1 rfSet_0 rfSet_1 rfAt_0 rfAt_1 zero_rf zt_rf built_rf fits71p fits73p
def rgZ (n : Int) : Rg := ⟨n, List.replicate 8 (.full, cli0), -1, [], dig0, []⟩
theorem rgZ_plain {n : Int} : (rgZ n).plain = reg0 n := by simp [Rg.plain, rgZ, reg0]
structure New13 (σ s : AST) (n : Int) (q j b mi : Nat) : Prop where
  p : PF σ s j (rgZ n) [(q, srvO n j b)]
  f : SF σ s b mi [] [(q, srvO n j b)]
  jb : j ≠ b
  jm : j ≠ mi
theorem srvNew_c {n : Int} {σ : AST} {K : AV → AST → Prop} (h2 : 2 ≤ n) (h8 : n ≤ 8) (hK : ∀ s' q j b mi, New13 σ s' n q j b mi → K (.tuple [.ptr (some (q, [])), .int .i64 0]) s') : TCalls Tryz.prog 7 [.int .i64 n] σ K := by
  refine tcalls_walk Tryz.f7 _ [.tmp 2, .tmp 3] Tryz.func7 rfl rfl rfl mixed (Nat.le_of_ble_eq_true rfl) rfl fun hlen => ?_
  repeat' (simp -dsimp only [↓reduceIte, go_sem])
  refine rgNew_c (fun e => absurd e (by omega)) (fun _ s1 hp => ?_)
  have hpl : σ.objs.length < s1.objs.length := by obtain ⟨t, o⟩ := hp.o; exact (List.getElem?_eq_some_iff.1 o).1
  repeat' (simp -dsimp only [↓reduceIte, go_sem])
  refine snew_c fun s2 b mi h2 => ?_
  have h2l := h2.lt
  have h3 := h2.box (srvO n σ.objs.length b)
  have hx := h3.x
  have hx1 : Ext σ s1 := hp.x
  have hp3 := hp.ext hx
  repeat' (simp -dsimp only [↓reduceIte, go_sem])
  refine hK _ _ σ.objs.length b mi ⟨⟨hp3.x, hp3.jn, hp3.h8, hp3.o, fun y hy => ?_⟩, ⟨hx1.trans hx, ?_, ?_, h3.jm, h3.o, h3.om, h3.f⟩, ?_, ?_⟩
  · simp only [List.mem_cons, List.not_mem_nil, or_false] at hy
    subst hy
    exact ⟨by show s2.objs.length ≠ σ.objs.length; have := h2.jn; omega, objs_app0⟩
  · have := h3.jn; omega
  · have := h3.mn; omega
  · have := h3.jn; omega
  · have := h3.mn; omega
theorem refNew13_c {σ s : AST} {n : Int} {q j b mi : Nat} {K : AV → AST → Prop} (h2 : 2 ≤ n) (h8 : n ≤ 8) (h : New13 σ s n q j b mi) (hK : ∀ s' A, A.q = q → Sv σ s' A n (reg0 n) (reg0 n) [] [] [] → K (.ptr (some (A.x, []))) s') : TCalls Tryz.prog 9 [.int .i64 n] s K := by
  refine tcalls_walk Tryz.f9 _ [.tmp 2] Tryz.func9 rfl rfl rfl mixed (Nat.le_of_ble_eq_true rfl) rfl fun hlen => ?_
  repeat' (simp -dsimp only [↓reduceIte, go_sem])
  refine refNew_c h2 h8 fun s1 k i1 i2 i3 i4 hq => ?_
  have hlt := hq.lt
  repeat' (simp -dsimp only [↓reduceIte, go_sem])
  have hx : Ext s (s1.app [.cells (.agg (rstPs .full rst0)), .cells (.agg (rfPs (some (k, [])) (some (s1.objs.length, []))))]) := hq.x.trans (Ext.app _ _)
  have hsl : s.objs.length ≤ s1.objs.length := by obtain ⟨O, T, e⟩ := hq.x; rw [e]; simp
  have hσ : σ.objs.length ≤ s.objs.length := by obtain ⟨O, T, e⟩ := h.p.x; rw [e]; simp
  have hp := h.p.ext hx
  have hf := h.f.ext hx
  have hq1 := hq.ext (Ext.app s1 [.cells (.agg (rstPs .full rst0)), .cells (.agg (rfPs (some (k, [])) (some (s1.objs.length, []))))])
  have lj : j < s.objs.length := by obtain ⟨t, o⟩ := h.p.o; exact (List.getElem?_eq_some_iff.1 o).1
  have lb := h.f.lt
  have oq := (h.p.f _ (List.mem_cons_self ..)).2
  have lq : q < s.objs.length := (List.getElem?_eq_some_iff.1 oq).1
  have jn := hq.jn
  simp only [List.mem_cons, List.not_mem_nil, or_false, forall_eq_or_imp, forall_eq] at jn
  obtain ⟨n0, n1, n2, n3, n4⟩ := jn
  have nq := (h.p.f _ (List.mem_cons_self ..)).1
  have nf := (h.f.f _ (List.mem_cons_self ..))
  dsimp only at nq nf
  have ob : (s1.app [.cells (.agg (rstPs .full rst0)), .cells (.agg (rfPs (some (k, [])) (some (s1.objs.length, []))))]).objs[s1.objs.length]? = some (.cells (.agg (rstPs .full ⟨[]⟩))) := by rw [objs_app0]; rfl
  refine hK _ ⟨q, s1.objs.length + 1, j, k, i1, i2, i3, i4, b, mi, s1.objs.length⟩ rfl ⟨⟨⟨rgZ n, rgZ_plain, ⟨hp.x, hp.jn, hp.h8, hp.o, by simp⟩⟩, ⟨hp.x, ?_, hq1.nd, hq1.n0, hq1.n8, hq1.l1, hq1.l2, hq1.l3, hq1.l4, hq1.o, hq1.o1, hq1.o2, hq1.o3, hq1.o4, by simp⟩, ?_⟩,
    ⟨⟨hf.x, hf.jn, hf.mn, hf.jm, hf.o, hf.om, by simp⟩, ⟨hf.x, ?_, ⟨.full, ob⟩, by simp⟩, ?_, ?_⟩, ?_, ext_known hx oq, ?_, ?_, ?_, by simp⟩
  · intro i hi
    simp only [List.mem_cons, List.not_mem_nil, or_false] at hi
    rcases hi with rfl | rfl | rfl | rfl | rfl <;> omega
  · simp only [List.mem_cons, List.not_mem_nil, or_false]; omega
  · show σ.objs.length ≤ s1.objs.length; omega
  · show s1.objs.length ≠ b; omega
  · show s1.objs.length ≠ mi; omega
  · have := h.jb
    have := h.jm
    intro i hi
    simp only [Ads.regs, Ads.blobs, List.mem_cons, List.not_mem_nil, or_false] at hi ⊢
    omega
  · rw [objs_app]; rfl
  · simp only [Ads.regs, Ads.blobs, List.mem_append, List.mem_cons, List.not_mem_nil, or_false]; omega
  · simp only [Ads.regs, Ads.blobs, List.mem_append, List.mem_cons, List.not_mem_nil, or_false]; omega
attribute [local go_sem] Tryz.underlying40 blobPs_0 blobAt_0 blobSet_0 blobPs_1 blobAt_1 blobSet_1 blobPs_2 blobAt_2 blobSet_2 sizes_blob shapes_blob fits_blob zero_blob zt_blob built_blob Tryz.underlying39 msgPs_0 msgAt_0 msgSet_0 msgPs_1 msgAt_1 msgSet_1 msgPs_8 msgAt_8 msgSet_8 msgPs_9 msgAt_9 sizes_msg shapes_msg fits_msg zero_msg zt_msg built_msg Tryz.underlying42
attribute [local go_sem] fits9 fits31
attribute [local go_sem] Tryz.underlying23 Tryz.underlying46
def bX : Blob := ⟨1, 5, [120], dig0⟩
def mA : Msg := { msg0 with kind := 4, blob := bX }
def mG : Msg := { msg0 with kind := 5, client := 1, nums := [5, 6] }
theorem sentL_eq {L : List (Tk × Tk × Msg)} : sentL L = ((L.map (·.2.2)).filter fun m => decide m.Ok).map Msg.bytes := by
  unfold sentL
  rw [List.filter_map, List.map_map]; rfl
theorem okA : mA.Ok := by
  refine ⟨?_, ?_, ?_⟩
  · simp [Msg.FieldsOk, mA, Blob.Ok, In, bX]
  · simp [In, mA, msg0]
  · simp [Msg.own_, mA, msg0]
theorem okF : (foundM bX).Ok := by
  refine ⟨?_, ?_, ?_⟩
  · simp [Msg.FieldsOk, foundM, Blob.Ok, In, bX]
  · simp [In, foundM, msg0]
  · simp [Msg.own_, foundM, msg0]
theorem nums2 : NumsOk [5, 6] := by
  refine ⟨fun i n h => ?_, by simp [In]⟩
  match i, h with
  | 0, h => simp at h; subst h; exact ⟨by simp [In], fun m h0 => by omega⟩
  | 1, h => simp at h; subst h; exact ⟨by simp [In], fun m _ h1 => by simp at h1; omega⟩
  | i + 2, h => simp at h
theorem nums1 : NumsOk [6] := by
  refine ⟨fun i n h => ?_, by simp [In]⟩
  match i, h with
  | 0, h => simp at h; subst h; exact ⟨by simp [In], fun m h0 => by omega⟩
  | i + 1, h => simp at h
theorem okG : mG.Ok := by
  refine ⟨?_, ?_, ?_⟩
  · simp [Msg.FieldsOk, mG, nums2]
  · simp [In, mG]
  · simp [Msg.own_, mG, msg0]
theorem okN2 : (noneM 1 [5, 6]).Ok := by
  refine ⟨?_, ?_, ?_⟩
  · simp [Msg.FieldsOk, noneM, nums2]
  · simp [In, noneM]
  · simp [Msg.own_, noneM, msg0]
theorem okN1 : (noneM 1 [6]).Ok := by
  refine ⟨?_, ?_, ?_⟩
  · simp [Msg.FieldsOk, noneM, nums1]
  · simp [In, noneM]
  · simp [Msg.own_, noneM, msg0]
theorem got0 {o n : Int} : bgot [] o n = none := rfl
theorem got5 : bgot [bX] 1 5 = some bX := by simp [bgot, bfind, isB, bX, List.findIdx?_cons]
theorem got6 : bgot [bX] 1 6 = none := by simp [bgot, bfind, isB, bX, List.findIdx?_cons]
theorem bX_rt : bX.Rt := by simp [Blob.Rt, bX]
theorem putX : bput [] bX = ([bX], 0) := by
  have hf : bfind [] 1 5 = none := rfl
  unfold bput
  rw [if_neg (fun h => h bX_rt)]
  simp [hf, usedN, usedB, bX]
theorem letters0 : lettersM [] mG = [noneM 1 [5, 6]] := by
  simp [lettersM, foundL, noneL, mG, got0]
theorem letters1 : lettersM [bX] mG = [foundM bX, noneM 1 [6]] := by
  simp [lettersM, foundL, noneL, mG, got5, got6]
theorem build_two {a b : Int} {KV : AV → Prop} (hK : KV (.slice .full ([a, b].map (AV.int .i64)))) : buildSliceW Tryz.prog 40 2 [(0, .int .i64 a), (1, .int .i64 b)] KV :=
  build_slice E45i rfl (by decide) (by intro v hv; simp at hv; rcases hv with rfl | rfl <;> simp [go_sem]) hK
theorem nth0 {α : Type} {a b : α} {K : α → Prop} (h : K a) : nthW [a, b] 0 K := ⟨by decide, by simp, fun x hx => by simp at hx; subst hx; exact h⟩
theorem nth1 {α : Type} {a b : α} {K : α → Prop} (h : K b) : nthW [a, b] 1 K := ⟨by decide, by simp, fun x hx => by simp at hx; subst hx; exact h⟩
theorem nth00 {α : Type} {a : α} {K : α → Prop} (h : K a) : nthW [a] 0 K := ⟨by decide, by simp, fun x hx => by simp at hx; subst hx; exact h⟩
theorem awake_c {σ : AST} {K : AV → AST → Prop} (hK : K (.bool true) σ) : TCalls Tryz.prog 8 [] σ K := by
  refine TCalls.drop ?_
  have fin : ∀ s', Ext σ s' → Ext σ s' ∧ (AV.bool true).noRef = true ∧ K (AV.bool true).strip σ := fun s' hx => ⟨hx, rfl, by simpa [AV.strip] using hK⟩
  have hfA : ({ kind := 4, client := msg0.client, sub := msg0.sub, rep := msg0.rep, view := msg0.view, by_ := msg0.by_, tag := msg0.tag, own := msg0.own, blob := { owner := 1, num := 5, cipher := [120], tag := blob0.tag }, nums := msg0.nums } : Msg) = mA := rfl
  have hfG : (msgPs Tk.full Tk.full ({ kind := 5, client := 1, sub := msg0.sub, rep := msg0.rep, view := msg0.view, by_ := msg0.by_, tag := msg0.tag, own := msg0.own, blob := msg0.blob, nums := msg0.nums } : Msg)).set 9 (.slice .full [.int .i64 5, .int .i64 6]) = msgPs Tk.full Tk.full mG := rfl
  have gA := get_back okA
  have gG := get_back okG
  have gF := get_back okF
  have gN := get_back okN1
  refine tcalls_walk Tryz.f8 _ [.tmp 0] Tryz.func8 rfl rfl rfl mixed (Nat.le_of_ble_eq_true rfl) rfl fun hlen => ?_
  repeat' (simp -dsimp only [↓reduceIte, go_sem])
  refine srvNew_c (n := 3) (by omega) (by omega) fun s1 q r j mi h0 => ?_
  have h1 := h0.f
  repeat' (simp -dsimp only [↓reduceIte, go_sem, hfA])
  refine put_c ?_
  rw [if_pos okA]
  repeat' (first | (simp -dsimp only [↓reduceIte, go_sem, hfG]) | (refine build_two ?_) | fail)
  refine put_c ?_
  rw [if_pos okG]
  repeat' (simp -dsimp only [↓reduceIte, go_sem])
  refine on_no h1 (by decide) (by decide) (by rw [gA]) (by rw [gA]; simp [mineB, mA, bX]) fun s2 hx2 => ?_
  have h2 := h1.ext hx2
  repeat' (simp -dsimp only [↓reduceIte, go_sem])
  refine on_get h2 (by decide) (by decide) (by rw [gG]) (by rw [gG]; simp [mineB, mG]) (by rw [gG]; rfl) (by rw [gG]; simp [mG]) fun s3 t3 L3 e3 hx3 => ?_
  rw [gG, letters0] at e3
  have l3 : sentL L3 = [(noneM 1 [5, 6]).bytes] := by rw [sentL_eq, e3]; simp [okN2]
  rw [l3]
  have h3 := h2.ext hx3
  repeat' (simp -dsimp only [↓reduceIte, go_sem])
  refine on_put h3 BOk.nil (by decide) (by decide) (by rw [gA]) (by rw [gA]; simp [mineB, mA, bX]) (by rw [gA]; rfl) fun s4 h4 => ?_
  rw [gA] at h4
  have e4 : (bput [] mA.blob).1 = [bX] := by rw [show mA.blob = bX from rfl, putX]
  rw [e4] at h4
  repeat' (simp -dsimp only [↓reduceIte, go_sem])
  refine on_get h4 (by decide) (by decide) (by rw [gG]) (by rw [gG]; simp [mineB, mG]) (by rw [gG]; rfl) (by rw [gG]; simp [mG]) fun s5 t5 L5 e5 hx5 => ?_
  rw [gG, letters1] at e5
  have l5 : sentL L5 = [(foundM bX).bytes, (noneM 1 [6]).bytes] := by rw [sentL_eq, e5]; simp [okF, okN1]
  rw [l5]
  have h5 := h4.ext hx5
  repeat' (first | (simp -dsimp only [↓reduceIte, go_sem]) | (refine arr_intro fun _ => ?_) | (refine guardV_split (fun h => ?_) (fun h => ?_) <;> (try rw [h]) <;> (try simp at h) <;> (try (exfalso; omega))) | fail)
  refine nth0 ?_
  repeat' (simp -dsimp only [↓reduceIte, go_sem])
  refine get_c fun t u => ?_
  rw [gF]
  repeat' (first | (simp -dsimp only [↓reduceIte, go_sem]) | (refine nth1 ?_) | fail)
  refine get_c fun t' u' => ?_
  rw [gN]
  have k1 : (foundM bX).kind = 6 := rfl
  have k2 : (foundM bX).blob.cipher = [120] := rfl
  have k3 : (noneM 1 [6]).kind = 7 := rfl
  have k4 : (noneM 1 [6]).nums = [6] := rfl
  repeat' (first | (simp -dsimp only [↓reduceIte, go_sem, k1, k2, k3, k4]) | (refine arr_intro fun _ => ?_) | (refine guardV_split (fun h => ?_) (fun h => ?_) <;> (try rw [h]) <;> (try simp at h) <;> (try (exfalso; omega))) | (refine nth00 ?_) | fail)
  exact fin _ (h5.x.trans (Ext.app _ _))
attribute [local go_sem] Tryz.underlying9
attribute [local go_sem] actPs_1 actAt_1 sizes_act fits_act Tryz.underlying44 Tryz.underlying22
def IsAct13 (v : AV) : Prop := ∃ t u a, v = .agg (actPs t u a) ∧ Rng a.m.by_
structure Gd (M : Reg) (B : List Blob) (n : Int) : Prop where
  ok : M.Ok
  fine : M.Fine
  n : M.n = n
  b : BOk B
theorem Gd.start {n : Int} (h2 : 2 ≤ n) (h8 : n ≤ 8) : Gd (reg0 n) [] n := ⟨Reg.reg0_ok h2 h8, Reg.reg0_fine, rfl, BOk.nil⟩
theorem Gd.on {M : Reg} {B : List Blob} {n c : Int} {b : List UInt8} (h : Gd M B n) : Gd (onR M c b) (onB M B c b) n :=
  ⟨onR_ok h.ok, onR_fine h.ok h.fine, by rw [onR_n]; exact h.n, onB_ok h.b⟩
section
variable {K : AV → AST → Prop}
theorem lawState_d {σ0 s : AST} {A : Ads} {n : Int} {M : Reg} {B : List Blob} {F : List (Nat × AObj)} (h : Sv σ0 s A n M M B B F) (hM : M.Ok) (hB : BOk B) (hK : K (.bool true) s) : TCalls Tryz.prog 14 [.ptr (some (A.q, [])), .ptr (some (A.x, []))] s K := by
  refine TCalls.drop ?_
  exact lawState_c h hM hB fun s' hx => ⟨hx, rfl, by simpa [AV.strip] using hK⟩
end
section
variable {K : AV → AST → Prop}
theorem len_sent {L : List (Tk × Tk × Msg)} (h : L.map (·.2.2) = []) : sentL L = [] := by rw [sentL_eq, h]; rfl
def own13 (c : Int) (b : List UInt8) : Prop := (getR b).2 = 0 ∧ 0 ≤ c ∧ c < 3 ∧ ((getR b).1.kind < 6 ∨ (getR b).1.kind = 8) ∧ (getR b).1.kind ≠ 2
theorem serverForeign_c {c : Int} {bs : List UInt8} {tl : Tk} {la : List AV} (hla : ∀ v ∈ la, IsAct13 v) {σ : AST} (hK : K (.bool true) σ) : TCalls Tryz.prog 6 [.slice tl la, .int .i64 c, .str bs] σ K := by
  refine TCalls.drop ?_
  have fin : ∀ s', Ext σ s' → Ext σ s' ∧ (AV.bool true).noRef = true ∧ K (AV.bool true).strip σ := fun s' hx => ⟨hx, rfl, by simpa [AV.strip] using hK⟩
  refine tcalls_walk Tryz.f6 _ [.tmp 6] Tryz.func6 rfl rfl rfl mixed (Nat.le_of_ble_eq_true rfl) rfl fun hlen => ?_
  repeat' (simp -dsimp only [↓reduceIte, go_sem])
  refine srvNew_c (n := 3) (by omega) (by omega) fun s1 q j b mi h1 => ?_
  repeat' (simp -dsimp only [↓reduceIte, go_sem])
  refine refNew13_c (by omega) (by omega) h1 fun s2 A hAq hS => ?_
  subst hAq
  by_cases hbl : bs.length > 8000
  · have hb1 : ((bs.length : Nat) : Int) > 8000 := by omega
    repeat' (first | (simp -dsimp only [↓reduceIte, go_sem, hb1]) | (refine arr_intro fun _ => ?_) | ((refine awake_c ?_)) | fail)
    exact fin _ hS.ext0
  have hb1 : ¬ ((bs.length : Nat) : Int) > 8000 := by omega
  repeat' (first | (simp -dsimp only [↓reduceIte, go_sem, hb1]) | (refine arr_intro fun _ => ?_) | ((refine awake_c ?_)) | fail)
  refine awp_rounds (fun (i : Nat) τ s' => ∃ M B, i ≤ la.length ∧ i ≤ 30 ∧ Sv σ s' A 3 M M B B [] ∧ Gd M B 3 ∧ τ 0 = .slice tl la ∧ τ 1 = .int .i64 c ∧ τ 2 = .str bs ∧ τ 7 = .ptr (some (A.q, [])) ∧ τ 9 = .ptr (some (A.x, [])) ∧ τ 10 = .int .i64 i) (fun i => 30 - i) 0 ?_ ?_
  · refine ⟨reg0 3, [], by omega, by omega, hS, Gd.start (by omega) (by omega), ?_, ?_, ?_, ?_, ?_, ?_⟩ <;> (try simp only [go_sem]) <;> (try rfl)
  · rintro i τ s' ⟨M, B, hi, hi5, hS, hG, t0, t1, t2, t7, t9, t10⟩
    by_cases hlt : i < la.length ∧ i < 30
    · have hlt1 : (i : Int) < la.length := by omega
      have hlt2 : (i : Int) < 30 := by omega
      have hb : la[i]? = some la[i] := List.getElem?_eq_getElem hlt.1
      obtain ⟨t, u, a, ha, hw⟩ := hla _ (List.getElem_mem hlt.1)
      rw [ha] at hb
      have w1 : IntKind.i64.wrap ((i : Int) + 1) = (i : Int) + 1 := wrap_i64 (by omega) (by omega)
      repeat' (first | (simp -dsimp only [↓reduceIte, go_sem, t0, t1, t2, t7, t9, t10, hlt1, hlt2]) | (refine arr_intro fun _ => ?_) | (refine nth_get hb ?_) | fail)
      refine lawBytes_c hS hG.ok hw fun s3 hx3 => ?_
      have hS3 := hS.ext hx3
      generalize bytesA M a [] = b at *
      repeat' (first | (simp -dsimp only [↓reduceIte, go_sem, t0, t1, t2, t7, t9, t10]) | (refine nth_get hb ?_) | fail)
      refine on_c hS3 hG.n hG.ok hG.b fun s4 tk L1 e1 h4 => ?_
      repeat' (first | (simp -dsimp only [↓reduceIte, go_sem, t0, t1, t2, t7, t9, t10]) | (refine nth_get hb ?_) | fail)
      refine refOn_c h4 hG.ok hG.b fun s5 tk2 L2 e2 h5 => ?_
      repeat' (simp -dsimp only [↓reduceIte, go_sem, t0, t1, t2, t7, t9, t10, w1])
      refine later_intro ⟨i + 1, by omega, _, _, by omega, by omega, h5, hG.on, ?_, ?_, ?_, ?_, ?_, ?_⟩ <;> (try simp only [go_sem, t0, t1, t2, t7, t9, t10]) <;> (try rfl)
    · have hlt' : (¬ (i : Int) < la.length ∧ True) ∨ ((i : Int) < la.length ∧ ¬ (i : Int) < 30) := by
        by_cases h : (i : Int) < la.length
        · exact .inr ⟨h, by omega⟩
        · exact .inl ⟨h, trivial⟩
      by_cases ho : own13 c bs
      · rcases hlt' with ⟨hlt1, hlt2⟩ | ⟨hlt1, hlt2⟩
        all_goals
          repeat' (first | (simp -dsimp only [↓reduceIte, go_sem, t0, t1, t2, t7, t9, t10, hlt1, hlt2]) | (refine arr_intro fun _ => ?_) | fail)
          refine refGet_c fun t u => ?_
          unfold own13 at ho
          generalize getR bs = R at *
          obtain ⟨o1, o2, o3, o4, o5⟩ := ho
          have g1 : c ≥ 0 := o2
          rcases o4 with o4 | o4
          all_goals
            repeat' (first | (simp -dsimp only [↓reduceIte, go_sem, t0, t1, t2, t7, t9, t10, o1, g1, o3, o4, o5]) | (refine guardV_split (fun h => ?_) (fun h => ?_) <;> (try rw [h]) <;> (try simp at h) <;> (try (exfalso; omega))) | fail)
            all_goals first
              | exact fin _ (hS.ext0.trans (Ext.app _ _))
              | (exfalso; omega)
              | skip
      · have hr : onR M c bs = M ∧ onB M B c bs = B ∧ onL M B c bs = [] := by
          by_cases hh : heard M c bs
          · have h0 := hh.2
            have h3 := hh.1
            have hn := hG.n
            unfold Reg.has at h3
            rw [hn] at h3
            unfold own13 at ho
            refine on_rest ?_ ?_ ?_ ?_ ?_
            all_goals
              intro e
              apply ho
              refine ⟨h0, h3.1, h3.2, ?_, ?_⟩ <;> omega
          · exact on_deaf hh
        rcases hlt' with ⟨hlt1, hlt2⟩ | ⟨hlt1, hlt2⟩
        all_goals
          repeat' (first | (simp -dsimp only [↓reduceIte, go_sem, t0, t1, t2, t7, t9, t10, hlt1, hlt2]) | (refine arr_intro fun _ => ?_) | fail)
          refine refGet_c fun t u => ?_
          have hS5 := hS.ext (Ext.app s' [.cells (msgV t u (getR bs).1)])
          have key : ∀ K' : AV → AST → Prop, (∀ s5 tk, Sv σ s5 A 3 M M B B [] → K' (.slice tk []) s5) → TCalls Tryz.prog 12 [.ptr (some (A.q, [])), .int .i64 c, .str bs] (s'.app [.cells (msgV t u (getR bs).1)]) K' := fun K' hK' => by
            refine on_c hS5 hG.n hG.ok hG.b fun s5 tk L1 e1 h5 => ?_
            rw [hr.2.2] at e1
            rw [hr.1, hr.2.1] at h5
            rw [len_sent e1]
            exact hK' s5 tk h5
          unfold own13 at ho
          generalize getR bs = R at *
          repeat' (first | (simp -dsimp only [↓reduceIte, go_sem, t0, t1, t2, t7, t9, t10]) | (refine guardV_split (fun h => ?_) (fun h => ?_) <;> (try rw [h]) <;> (try simp at h) <;> (try (exfalso; omega))) | fail)
          all_goals
            refine key _ fun s5 tk h5 => ?_
            repeat' (first | (simp -dsimp only [↓reduceIte, go_sem, t0, t1, t2, t7, t9, t10]) | (refine guardV_split (fun h => ?_) (fun h => ?_) <;> (try rw [h]) <;> (try simp at h) <;> (try (exfalso; omega))) | ((refine lawState_d h5 hG.ok hG.b ?_)) | fail)
            exact fin _ h5.ext0
end

theorem sh_ints {n : Nat} {v : AV} (h : ShT Tryz.prog (n + 2) 40 v) : ∃ (tk : Tk) (l : List Int), v = .slice tk (l.map (AV.int .i64)) := by
  obtain ⟨tk, xs, rfl, e⟩ := sh_slice (n := n + 1) (t := 40) Tryz.underlying40 h
  obtain ⟨l, rfl, _⟩ := map_of (f := AV.int .i64) (p := fun _ => True) (fun x hx => by obtain ⟨i, rfl, _, _⟩ := sh_int (n := n) (t := 3) Tryz.underlying3 (e x hx); exact ⟨i, rfl, trivial⟩)
  exact ⟨tk, l, rfl⟩
theorem sh_pend {n : Nat} {v : AV} (h : ShT Tryz.prog (n + 9) 138 v) : ∃ y : Pend, v = pendV y ∧ True := by
  obtain ⟨ps, rfl, hps⟩ := sh_struct (n := n + 8) Tryz.underlying138 h
  obtain ⟨p0, r, rfl, h0, hps⟩ := shTs_cons (n := n + 7) hps
  obtain ⟨p1, r, rfl, h1, hps⟩ := shTs_cons (n := n + 6) hps
  obtain ⟨p2, r, rfl, h2, hps⟩ := shTs_cons (n := n + 5) hps
  obtain ⟨p3, r, rfl, h3, hps⟩ := shTs_cons (n := n + 4) hps
  obtain ⟨p4, r, rfl, h4, hps⟩ := shTs_cons (n := n + 3) hps
  obtain ⟨p5, r, rfl, h5, hps⟩ := shTs_cons (n := n + 2) hps
  obtain rfl := shTs_nil hps
  obtain ⟨a, rfl, _, _⟩ := sh_int (t := 3) Tryz.underlying3 h0
  obtain ⟨b, rfl, _, _⟩ := sh_int (t := 3) Tryz.underlying3 h1
  obtain ⟨c, rfl, _, _⟩ := sh_int (t := 3) Tryz.underlying3 h2
  obtain ⟨d, rfl, _, _⟩ := sh_int (t := 3) Tryz.underlying3 h3
  obtain ⟨e, rfl⟩ := sh_dig (t := 32) Tryz.underlying32 h4
  obtain ⟨f, rfl⟩ := sh_dig (t := 32) Tryz.underlying32 h5
  exact ⟨⟨a, b, c, d, e, f⟩, rfl, trivial⟩
theorem sh_sub {n : Nat} {v : AV} (h : ShT Tryz.prog (n + 9) 34 v) : ∃ y : Sub, v = subV y := by
  obtain ⟨ps, rfl, hps⟩ := sh_struct (n := n + 8) Tryz.underlying34 h
  obtain ⟨p0, r, rfl, h0, hps⟩ := shTs_cons (n := n + 7) hps
  obtain ⟨p1, r, rfl, h1, hps⟩ := shTs_cons (n := n + 6) hps
  obtain ⟨p2, r, rfl, h2, hps⟩ := shTs_cons (n := n + 5) hps
  obtain ⟨p3, r, rfl, h3, hps⟩ := shTs_cons (n := n + 4) hps
  obtain ⟨p4, r, rfl, h4, hps⟩ := shTs_cons (n := n + 3) hps
  obtain ⟨p5, r, rfl, h5, hps⟩ := shTs_cons (n := n + 2) hps
  obtain rfl := shTs_nil hps
  obtain ⟨a, rfl, _, _⟩ := sh_int (t := 3) Tryz.underlying3 h0
  obtain ⟨b, rfl, _, _⟩ := sh_int (t := 3) Tryz.underlying3 h1
  obtain ⟨c, rfl, _, _⟩ := sh_int (t := 3) Tryz.underlying3 h2
  obtain ⟨d, rfl⟩ := sh_str (t := 9) Tryz.underlying9 h3
  obtain ⟨e, rfl⟩ := sh_dig (t := 32) Tryz.underlying32 h4
  obtain ⟨f, rfl⟩ := sh_dig (t := 32) Tryz.underlying32 h5
  exact ⟨⟨a, b, c, d, e, f⟩, rfl⟩
theorem sh_blob {n : Nat} {v : AV} (h : ShT Tryz.prog (n + 9) 39 v) : ∃ y : Blob, v = blobV y := by
  obtain ⟨ps, rfl, hps⟩ := sh_struct (n := n + 8) Tryz.underlying39 h
  obtain ⟨p0, r, rfl, h0, hps⟩ := shTs_cons (n := n + 7) hps
  obtain ⟨p1, r, rfl, h1, hps⟩ := shTs_cons (n := n + 6) hps
  obtain ⟨p2, r, rfl, h2, hps⟩ := shTs_cons (n := n + 5) hps
  obtain ⟨p3, r, rfl, h3, hps⟩ := shTs_cons (n := n + 4) hps
  obtain rfl := shTs_nil hps
  obtain ⟨a, rfl, _, _⟩ := sh_int (t := 3) Tryz.underlying3 h0
  obtain ⟨b, rfl, _, _⟩ := sh_int (t := 3) Tryz.underlying3 h1
  obtain ⟨c, rfl⟩ := sh_str (t := 9) Tryz.underlying9 h2
  obtain ⟨e, rfl⟩ := sh_dig (t := 32) Tryz.underlying32 h3
  exact ⟨⟨a, b, c, e⟩, rfl⟩
theorem sh_rep {n : Nat} {v : AV} (h : ShT Tryz.prog (n + 18) 37 v) : ∃ (t : Tk) (y : Rep), v = repV t y := by
  obtain ⟨ps, rfl, hps⟩ := sh_struct (n := n + 17) Tryz.underlying37 h
  obtain ⟨p0, r, rfl, h0, hps⟩ := shTs_cons (n := n + 16) hps
  obtain ⟨p1, r, rfl, h1, hps⟩ := shTs_cons (n := n + 15) hps
  obtain ⟨p2, r, rfl, h2, hps⟩ := shTs_cons (n := n + 14) hps
  obtain ⟨p3, r, rfl, h3, hps⟩ := shTs_cons (n := n + 13) hps
  obtain ⟨p4, r, rfl, h4, hps⟩ := shTs_cons (n := n + 12) hps
  obtain ⟨p5, r, rfl, h5, hps⟩ := shTs_cons (n := n + 11) hps
  obtain ⟨p6, r, rfl, h6, hps⟩ := shTs_cons (n := n + 10) hps
  obtain ⟨p7, r, rfl, h7, hps⟩ := shTs_cons (n := n + 9) hps
  obtain ⟨p8, r, rfl, h8, hps⟩ := shTs_cons (n := n + 8) hps
  obtain ⟨p9, r, rfl, h9, hps⟩ := shTs_cons (n := n + 7) hps
  obtain rfl := shTs_nil hps
  obtain ⟨a, rfl, _, _⟩ := sh_int (t := 3) Tryz.underlying3 h0
  obtain ⟨b, rfl, _, _⟩ := sh_int (t := 3) Tryz.underlying3 h1
  obtain ⟨c, rfl⟩ := sh_str (t := 9) Tryz.underlying9 h2
  obtain ⟨d, rfl⟩ := sh_dig (t := 32) Tryz.underlying32 h3
  obtain ⟨tk, xs, rfl, e⟩ := sh_slice (n := n + 11) (t := 35) Tryz.underlying35 h4
  obtain ⟨l, rfl, _⟩ := map_of (f := pendV) (p := fun _ => True) (fun x hx => sh_pend (n := n + 2) (e x hx))
  obtain ⟨f, rfl, _, _⟩ := sh_int (t := 3) Tryz.underlying3 h5
  obtain ⟨g, rfl⟩ := sh_str (t := 9) Tryz.underlying9 h6
  obtain ⟨k, rfl⟩ := sh_dig (t := 32) Tryz.underlying32 h7
  obtain ⟨i, rfl⟩ := sh_str (t := 9) Tryz.underlying9 h8
  obtain ⟨j, rfl⟩ := sh_dig (t := 32) Tryz.underlying32 h9
  exact ⟨tk, ⟨a, b, c, d, l, f, g, k, i, j⟩, rfl⟩
theorem sh_msg {n : Nat} {v : AV} (h : ShT Tryz.prog (n + 30) 42 v) : ∃ (t u : Tk) (m : Msg), v = msgV t u m ∧ Rng m.by_ := by
  obtain ⟨ps, rfl, hps⟩ := sh_struct (n := n + 29) Tryz.underlying42 h
  obtain ⟨p0, r, rfl, h0, hps⟩ := shTs_cons (n := n + 28) hps
  obtain ⟨p1, r, rfl, h1, hps⟩ := shTs_cons (n := n + 27) hps
  obtain ⟨p2, r, rfl, h2, hps⟩ := shTs_cons (n := n + 26) hps
  obtain ⟨p3, r, rfl, h3, hps⟩ := shTs_cons (n := n + 25) hps
  obtain ⟨p4, r, rfl, h4, hps⟩ := shTs_cons (n := n + 24) hps
  obtain ⟨p5, r, rfl, h5, hps⟩ := shTs_cons (n := n + 23) hps
  obtain ⟨p6, r, rfl, h6, hps⟩ := shTs_cons (n := n + 22) hps
  obtain ⟨p7, r, rfl, h7, hps⟩ := shTs_cons (n := n + 21) hps
  obtain ⟨p8, r, rfl, h8, hps⟩ := shTs_cons (n := n + 20) hps
  obtain ⟨p9, r, rfl, h9, hps⟩ := shTs_cons (n := n + 19) hps
  obtain rfl := shTs_nil hps
  obtain ⟨a, rfl, _, _⟩ := sh_int (t := 3) Tryz.underlying3 h0
  obtain ⟨b, rfl, _, _⟩ := sh_int (t := 3) Tryz.underlying3 h1
  obtain ⟨c, rfl⟩ := sh_sub (n := n + 17) h2
  obtain ⟨t, d, rfl⟩ := sh_rep (n := n + 7) h3
  obtain ⟨e, rfl⟩ := sh_str (t := 9) Tryz.underlying9 h4
  obtain ⟨f, rfl, f1, f2⟩ := sh_int (t := 3) Tryz.underlying3 h5
  obtain ⟨g, rfl⟩ := sh_dig (t := 32) Tryz.underlying32 h6
  obtain ⟨k, rfl⟩ := sh_dig (t := 32) Tryz.underlying32 h7
  obtain ⟨i, rfl⟩ := sh_blob (n := n + 11) h8
  obtain ⟨u, l, rfl⟩ := sh_ints (n := n + 17) h9
  exact ⟨t, u, ⟨a, b, c, d, e, f, g, k, i, l⟩, rfl, f1, f2⟩
theorem sh_act13 {n : Nat} {v : AV} (h : ShT Tryz.prog (n + 35) 44 v) : IsAct13 v := by
  obtain ⟨ps, rfl, hps⟩ := sh_struct (n := n + 34) Tryz.underlying44 h
  obtain ⟨p0, r, rfl, h0, hps⟩ := shTs_cons (n := n + 33) hps
  obtain ⟨p1, r, rfl, h1, hps⟩ := shTs_cons (n := n + 32) hps
  obtain ⟨p2, r, rfl, h2, hps⟩ := shTs_cons (n := n + 31) hps
  obtain ⟨p3, r, rfl, h3, hps⟩ := shTs_cons (n := n + 30) hps
  obtain rfl := shTs_nil hps
  obtain ⟨a, rfl, _, _⟩ := sh_int (t := 3) Tryz.underlying3 h0
  obtain ⟨b, rfl, _, _⟩ := sh_int (t := 3) Tryz.underlying3 h1
  obtain ⟨c, rfl⟩ := sh_str (t := 9) Tryz.underlying9 h2
  obtain ⟨t, u, m, rfl, hm⟩ := sh_msg (n := n) h3
  exact ⟨t, u, ⟨a, b, c, m⟩, rfl, hm⟩
theorem sh_acts13 {v : AV} (h : ShT Tryz.prog 51 22 v) : ∃ tk la, v = .slice tk la ∧ ∀ v ∈ la, IsAct13 v := by
  obtain ⟨tk, xs, rfl, e⟩ := sh_slice (n := 50) (t := 22) Tryz.underlying22 h
  exact ⟨tk, xs, rfl, fun v hv => sh_act13 (n := 15) (e v hv)⟩
end Go.Aff.L10

