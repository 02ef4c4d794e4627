import Derived.Test.YtikbkaedemmpmaaGreatG13
import Derived.Test.YtikbkaedemmpmaaGreatG12
import Derived.Test.YtikbkaedemmpmaaGreatG8

set_option linter.unusedSimpArgs false
set_option linter.unusedVariables false

namespace Go.Aff.L10
open Go.Proofs Go.Aff Go.Aff.L01 Classical
set_option maxRecDepth 20000
attribute [-go_sem] cellAt_new
attribute [-simp] List.length_flatMap
attribute [local go_sem] Tryz.underlying3 Tryz.underlying5 Tryz.underlying9 Tryz.underlying35 subPs_0 subAt_0 Tryz.underlying34 pendPs_0 pendAt_0 pendPs_1 pendAt_1 sizes_pend fits_pend Tryz.underlying138 msgPs_0 msgAt_0 msgSet_0 msgPs_1 msgAt_1 msgSet_1 msgPs_4 msgAt_4 msgSet_4 msgPs_6 msgAt_6 msgSet_6 zero_msg zt_msg built_msg
attribute [local go_sem] fits3 fits9 fits23 fits26
attribute [local go_sem] rrgPs_0 rrgAt_0 rrgPs_2 rrgAt_2 rrgPs_3 rrgAt_3 rrgPs_4 rrgSet_4 rrgAt_4 rrgPs_5 rrgSet_5 rrgAt_5 rrgPs_6 rrgSet_6 rrgAt_6 rrgPs_7 rrgSet_7 rrgAt_7 fits57 fits39 fits59 arrV_none arrV_some Tryz.underlying84
attribute [local go_sem] isAgg_arr size_arr shape_arr known_arr
noncomputable def RM.commit (X : RM) (n : Int) (v : List UInt8) (t : Dig) : RM × Int :=
  if ¬ (Reg.comM n v t).Ok ∨ ¬ X.has n then (X, 2)
  else if ((v.getLast?.getD 0).toNat : Int) ≠ n ∨ (Go.Aff.L09.cnt n v : Int) ≠ (X.sub n).num then (X, 3)
  else if Go.Aff.L09.cnt n (X.view n) = Go.Aff.L09.cnt n v then (X, 10)
  else if v.length ≤ X.long.length then ({ X with views := X.views.set n.toNat v, tags := X.tags.set n.toNat t }, 0)
  else ({ X with views := X.views.set n.toNat v, tags := X.tags.set n.toNat t, by_ := n, long := v, tag := t, pend := Reg.cut n (Go.Aff.L09.cnt n v) X.pend }, 0)
section
variable {σ0 s s2 : AST} {k i1 i2 i3 i4 : Nat} {X : RM} {F : List (Nat × AObj)} {K : AV → AST → Prop}
theorem refCommit_c (h : QF σ0 s k i1 i2 i3 i4 X F) (hM : X.Ok) {n : Int} {v : List UInt8} {t : Dig} (hK : ∀ s', QF σ0 s' k i1 i2 i3 i4 (X.commit n v t).1 F → K (.int .i64 (X.commit n v t).2) s') :
    TCalls Tryz.prog 39 [.ptr (some (k, [])), .int .i64 n, .str v, .dig t] s K := by
  have hn8 := h.n8
  have hlt := h.lt
  have hpb := hM.pl
  have hB := h.box (.cells (.dig t))
  generalize hs1 : s.app [.cells (.dig t)] = s1 at hB
  obtain ⟨tk, o⟩ := hB.o
  have c0 := cellAt_known o
  have b0 := (hB.f _ (List.mem_cons_self ..)).2
  simp only at b0
  have cb0 := cellAt_known b0
  have hend : ∀ e, X.commit n v t = (X, e) → K (.int .i64 e) s1 := fun e he => by
    have := hK s1 (by rw [he]; exact hB.less)
    rw [he] at this; exact this
  refine tcalls_walk Tryz.f39 _ [.tmp 8] Tryz.func39 rfl rfl rfl mixed (Nat.le_of_ble_eq_true rfl) rfl fun hlen => ?_
  by_cases hok : (Reg.comM n v t).Ok
  · have hokt := eq_true hok
    by_cases hn : X.has n
    · have hgo : ¬ (¬ (Reg.comM n v t).Ok ∨ ¬ X.has n) := by rintro (h | h) <;> contradiction
      have hn0 := hn.1
      have hn1 := hn.2
      have hf : v ≠ [] ∧ ViewOk 8 v := by have := hok.1; simpa [Msg.FieldsOk, Reg.comM] using this
      obtain ⟨hvne, hvo⟩ := hf
      have hvl : 1 ≤ v.length := by have := List.length_pos_iff.2 hvne; omega
      have hvm : v.length ≤ 512 := hvo.2.1
      have hlast := last_get hvne
      have hl1 : (v.length : Int) - 1 = ((v.length - 1 : Nat) : Int) := by omega
      have hwl : IntKind.i64.wrap ((v.length - 1 : Nat) : Int) = ((v.length - 1 : Nat) : Int) := wrap_i64 (by omega) (by omega)
      generalize hlb : v.getLast?.getD 0 = b at hlast
      have hwb : IntKind.i64.wrap (b.toNat : Int) = b.toNat := wrap_i64 (by omega) (by have := b.toNat_lt; omega)
      have hcom : X.commit n v t = if (b.toNat : Int) ≠ n ∨ (Go.Aff.L09.cnt n v : Int) ≠ (X.sub n).num then (X, 3)
          else if Go.Aff.L09.cnt n (X.view n) = Go.Aff.L09.cnt n v then (X, 10)
          else if v.length ≤ X.long.length then ({ X with views := X.views.set n.toNat v, tags := X.tags.set n.toNat t }, 0)
          else ({ X with views := X.views.set n.toNat v, tags := X.tags.set n.toNat t, by_ := n, long := v, tag := t, pend := Reg.cut n (Go.Aff.L09.cnt n v) X.pend }, 0) := by
        unfold RM.commit; rw [if_neg hgo, hlb]
      generalize hcv : Go.Aff.L09.cnt n v = kv at hcom
      have A1 : ∀ q, cellAt s1 i1 (n.toNat :: q) = (AV.agg (subPs (X.sub n))).at q := fun q => by rw [cellAt_known hB.o1, arr_at (f := fun x => AV.agg (subPs x)) (hB.sub hn)]
      have A3 : ∀ q, cellAt s1 i3 (n.toNat :: q) = (AV.str (X.view n)).at q := fun q => by rw [cellAt_known hB.o3, arr_at (hB.view hn)]
      by_cases e1 : (b.toNat : Int) = n
      · have e1t := eq_true e1
        by_cases e2 : (kv : Int) = (X.sub n).num
        · have e2t := eq_true e2
          rw [if_neg (by rintro (h | h); exact h e1; exact h e2)] at hcom
          by_cases e3 : Go.Aff.L09.cnt n (X.view n) = kv
          · rw [if_pos e3] at hcom
            repeat' (first | (simp -dsimp only [↓reduceIte, go_sem, hs1, c0, cb0, hn0, hn1, A1, A3, hl1, hwl, hwb, hokt, e1t, e2t]) | (refine arr_intro fun _ => ?_) | (refine guardV_split (fun h => ?_) (fun h => ?_) <;> (try rw [h]) <;> (try simp at h) <;> (try (exfalso; omega))) | (refine refIs_c hB ?_) | ((refine refRight_c (m := Reg.comM n v t) comM_by ?_)) | ((refine Go.Aff.L09.Count_c ?_; first | rw [hcv] | rw [e3])) | (refine idx1 hB hn ?_) | (refine idx3 hB hn ?_) | (refine nth_get hlast ?_))
            exact hend 10 hcom
          · rw [if_neg e3] at hcom
            have e3t : ¬ ((Go.Aff.L09.cnt n (X.view n) : Nat) : Int) = kv := by omega
            have so3 : ∀ w, setOk (.agg (X.views.map .str)) [n.toNat] w := fun w => arr_setOk
            have sa3 : (AV.agg (X.views.map .str)).setAt [n.toNat] (.str v) = .agg ((X.views.set n.toNat v).map .str) := arr_setAt (f := .str) (hB.view hn)
            have at3 : (AV.agg (X.views.map .str)).at [n.toNat] = some (.str (X.view n)) := by rw [arr_at (f := .str) (hB.view hn)]; rfl
            repeat' (first | (simp -dsimp only [↓reduceIte, go_sem, hs1, c0, cb0, hn0, hn1, A1, A3, hl1, hwl, hwb, hokt, e1t, e2t, e3t, hB.o3, so3, sa3, at3]) | (refine arr_intro fun _ => ?_) | (refine guardV_split (fun h => ?_) (fun h => ?_) <;> (try rw [h]) <;> (try simp at h) <;> (try (exfalso; omega))) | (refine refIs_c hB ?_) | ((refine refRight_c (m := Reg.comM n v t) comM_by ?_)) | ((refine Go.Aff.L09.Count_c ?_; try rw [hcv])) | (refine idx1 hB hn ?_) | (refine idx3 hB hn ?_) | (refine nth_get hlast ?_))
            have hQ1 := hB.put3 (i := n.toNat) (y := v)
            generalize s1.set i3 _ = S1 at hQ1 ⊢
            obtain ⟨ta, oa⟩ := hQ1.o
            have ca := cellAt_known oa
            have g0 := (hQ1.f _ (List.mem_cons_self ..)).2
            simp only at g0
            have cg0 := cellAt_known g0
            have so4 : ∀ w, setOk (.agg (X.tags.map .dig)) [n.toNat] w := fun w => arr_setOk
            have sa4 : (AV.agg (X.tags.map .dig)).setAt [n.toNat] (.dig t) = .agg ((X.tags.set n.toNat t).map .dig) := arr_setAt (f := .dig) (hB.tg hn)
            have at4 : (AV.agg (X.tags.map .dig)).at [n.toNat] = some (.dig (X.tg n)) := by rw [arr_at (f := .dig) (hB.tg hn)]; rfl
            repeat' (first | (simp -dsimp only [↓reduceIte, go_sem, ca, cg0, hQ1.o4, so4, sa4, at4]) | (refine arr_intro fun _ => ?_) | (refine later_intro ⟨keeps_nil, ?_⟩) | (with_reducible refine awp_drawT (id := 9) (.op 0 2 (.op 1 2 (.op 2 2 (.op 3 2 (.op 4 2 (.op 5 2 (.op 6 2 (.op 7 1 .nil)))))))) (by kernel_rfl) ?_) | (refine idx4 hQ1 hn ?_))
            have hQ2 := hQ1.put4 (i := n.toNat) (y := t)
            generalize S1.set i4 _ = S2 at hQ2 ⊢
            obtain ⟨tb, ob⟩ := hQ2.o
            have cb := cellAt_known ob
            have g0 := (hQ2.f _ (List.mem_cons_self ..)).2
            simp only at g0
            have cg0 := cellAt_known g0
            by_cases e4 : v.length ≤ X.long.length
            · rw [if_pos e4] at hcom
              have e4' : (v.length : Int) ≤ X.long.length := by omega
              repeat' (first | (simp -dsimp only [↓reduceIte, go_sem, cb, e4']) | (refine arr_intro fun _ => ?_))
              have hfin := hK S2 (by rw [hcom]; exact hQ2.less)
              rw [hcom] at hfin
              exact hfin
            · rw [if_neg e4] at hcom
              have e4' : ¬ (v.length : Int) ≤ X.long.length := by omega
              have hlt2 := hQ2.lt
              have hkS : ∀ w p, cellAt (S2.set k (.cells w)) k p = w.at p := fun w p => cellAt_setSx hlt2.1
              have hoS : ∀ w, (S2.set k w).objs[k]? = some w := fun w => objs_setSx hlt2.1
              have nk : k ≠ s.objs.length := by omega
              repeat' (first | (simp -dsimp only [↓reduceIte, go_sem, cb, ob, cg0, e4', hkS, hoS, set_setx, cellAt_setNx nk]) | (refine arr_intro fun _ => ?_))
              have hQ3 := hQ2.putk (t := tb) (b := n) (l := v) (g := t) (p := X.pend)
              generalize S2.set k _ = S3 at hQ3 ⊢
              obtain ⟨tc, oc⟩ := hQ3.o
              have cc := cellAt_known oc
              refine awp_rounds (fun (i : Nat) τ s' => s' = S3 ∧ i ≤ X.pend.length ∧ τ 0 = .ptr (some (k, [])) ∧ τ 1 = .int .i64 n ∧ τ 9 = .int .i64 kv ∧ τ 11 = .int .i64 i ∧ ((τ 10 = .int .i64 (-1) ∧ ∀ (m : Nat) z, m < i → X.pend[m]? = some z → ¬ hitP n kv z) ∨ ∃ (a : Nat) (y : Pend), τ 10 = .int .i64 a ∧ a < i ∧ X.pend[a]? = some y ∧ hitP n kv y ∧ ∀ (m : Nat) z, m < a → X.pend[m]? = some z → ¬ hitP n kv z)) (fun i => X.pend.length - i) 0 ?_ ?_
              · refine ⟨rfl, by omega, ?_, ?_, ?_, ?_, .inl ⟨?_, fun m z hm => by omega⟩⟩ <;> (try simp only [go_sem]) <;> (try rfl)
              · rintro i τ s' ⟨rfl, hi, t0, t1, t9, t11, hat⟩
                by_cases hil : i < X.pend.length
                · have hi1 : (i : Int) < X.pend.length := by omega
                  obtain ⟨y, hy, _⟩ := get_of_lt hil
                  rcases hat with ⟨t10, hno⟩ | ⟨a, z, t10, ha, hz, hh, hno⟩
                  · by_cases hh : hitP n kv y
                    · obtain ⟨e5, e6⟩ := hh
                      repeat' (first | (simp -dsimp only [↓reduceIte, go_sem, t0, t1, t9, t10, t11, hi1, cc, e5, e6]) | (refine arr_intro fun _ => ?_) | (rw [wrap_i64 (by omega) (by omega)]) | (refine nth_get hy ?_))
                      exact ⟨i + 1, by omega, by omega, rfl, .inr ⟨i, y, rfl, by omega, hy, ⟨e5, e6⟩, hno⟩⟩
                    · have e5 : ¬ (y.client = n ∧ y.num = kv) := hh
                      have hno' : ∀ (m : Nat) z, m < i + 1 → X.pend[m]? = some z → ¬ hitP n kv z := fun m z hm hz => by
                        by_cases hmi : m < i
                        · exact hno m z hmi hz
                        · obtain rfl : m = i := by omega
                          rw [hy] at hz; cases hz; exact hh
                      by_cases e5a : y.client = n
                      · have e6 : ¬ y.num = kv := fun h => e5 ⟨e5a, h⟩
                        have e5t := eq_true e5a
                        repeat' (first | (simp -dsimp only [↓reduceIte, go_sem, t0, t1, t9, t10, t11, hi1, cc, e5t, e6]) | (refine arr_intro fun _ => ?_) | (rw [wrap_i64 (by omega) (by omega)]) | (refine guardV_split (fun h => ?_) (fun h => ?_) <;> (try rw [h]) <;> (try simp at h) <;> (try (exfalso; omega))) | (refine nth_get hy ?_))
                        refine later_intro ⟨i + 1, by omega, rfl, by omega, ?_, ?_, ?_, ?_, .inl ⟨?_, hno'⟩⟩ <;> (try simp only [go_sem, t0, t1, t9, t10, t11]) <;> (try rfl)
                      · repeat' (first | (simp -dsimp only [↓reduceIte, go_sem, t0, t1, t9, t10, t11, hi1, cc, e5a]) | (refine arr_intro fun _ => ?_) | (rw [wrap_i64 (by omega) (by omega)]) | (refine guardV_split (fun h => ?_) (fun h => ?_) <;> (try rw [h]) <;> (try simp at h) <;> (try (exfalso; omega))) | (refine nth_get hy ?_))
                        refine later_intro ⟨i + 1, by omega, rfl, by omega, ?_, ?_, ?_, ?_, .inl ⟨?_, hno'⟩⟩ <;> (try simp only [go_sem, t0, t1, t9, t10, t11]) <;> (try rfl)
                  · have ha0 : ¬ (a : Int) < 0 := by omega
                    repeat' (first | (simp -dsimp only [↓reduceIte, go_sem, t0, t1, t9, t10, t11, hi1, cc, ha0]) | (refine arr_intro fun _ => ?_) | (rw [wrap_i64 (by omega) (by omega)]))
                    refine later_intro ⟨i + 1, by omega, rfl, by omega, ?_, ?_, ?_, ?_, .inr ⟨a, z, ?_, by omega, hz, hh, hno⟩⟩ <;> (try simp only [go_sem, t0, t1, t9, t10, t11]) <;> (try rfl)
                · have hi1 : ¬ (i : Int) < X.pend.length := by omega
                  rcases hat with ⟨t10, hno⟩ | ⟨a, z, t10, ha, hz, hh, hno⟩
                  · have hcut : Reg.cut n kv X.pend = X.pend := cut_none fun p hp => by
                      obtain ⟨m, hm⟩ := List.mem_iff_getElem?.1 hp
                      exact hno m p (by have := (List.getElem?_eq_some_iff.1 hm).1; omega) hm
                    rw [hcut] at hcom
                    repeat' (first | (simp -dsimp only [↓reduceIte, go_sem, t0, t1, t9, t10, t11, hi1, cc]) | (refine arr_intro fun _ => ?_))
                    have hfin := hK s' (by rw [hcom]; exact hQ3.less)
                    rw [hcom] at hfin
                    exact hfin
                  · have hcut := cut_at hno hz hh
                    have hal := (List.getElem?_eq_some_iff.1 hz).1
                    rw [hcut] at hcom
                    have ha0 : (0 : Int) ≤ a := by omega
                    repeat' (first | (simp -dsimp only [↓reduceIte, go_sem, t0, t1, t9, t10, t11, hi1, cc, ha0, oc]) | (refine arr_intro fun _ => ?_) | (rw [wrap_i64 (by omega) (by omega)]) | (refine lo_pends (by omega) fun tt => ?_))
                    rw [hcom] at hK
                    refine hK _ ?_
                    exact hQ3.putk.less
        · rw [if_pos (.inr e2)] at hcom
          repeat' (first | (simp -dsimp only [↓reduceIte, go_sem, hs1, c0, cb0, hn0, hn1, A1, hl1, hwl, hwb, hokt, e1t, e2]) | (refine arr_intro fun _ => ?_) | (refine guardV_split (fun h => ?_) (fun h => ?_) <;> (try rw [h]) <;> (try simp at h) <;> (try (exfalso; omega))) | (refine refIs_c hB ?_) | ((refine refRight_c (m := Reg.comM n v t) comM_by ?_)) | ((refine Go.Aff.L09.Count_c ?_; rw [hcv])) | (refine idx1 hB hn ?_) | (refine nth_get hlast ?_))
          all_goals exact hend 3 hcom
      · rw [if_pos (.inl e1)] at hcom
        repeat' (first | (simp -dsimp only [↓reduceIte, go_sem, hs1, c0, cb0, hn0, hn1, A1, hl1, hwl, hwb, hokt, e1]) | (refine arr_intro fun _ => ?_) | (refine guardV_split (fun h => ?_) (fun h => ?_) <;> (try rw [h]) <;> (try simp at h) <;> (try (exfalso; omega))) | (refine refIs_c hB ?_) | ((refine refRight_c (m := Reg.comM n v t) comM_by ?_)) | ((refine Go.Aff.L09.Count_c ?_; rw [hcv])) | (refine nth_get hlast ?_))
        all_goals first
          | exact hend 3 hcom
          | (refine absurd ?_ e1; assumption)
    · have hcom : X.commit n v t = (X, 2) := by unfold RM.commit; rw [if_pos (.inr hn)]
      have hnd : (0 ≤ n ∧ n < X.n) = False := eq_false hn
      repeat' (first | (simp -dsimp only [↓reduceIte, go_sem, hs1, c0, cb0, hnd, hokt]) | (refine refIs_c hB ?_) | ((refine refRight_c (m := Reg.comM n v t) comM_by ?_)))
      all_goals first
        | exact hend 2 hcom
        | (refine absurd ?_ hn; assumption)
  · have hcom : X.commit n v t = (X, 2) := by unfold RM.commit; rw [if_pos (.inl hok)]
    repeat' (first | (simp -dsimp only [↓reduceIte, go_sem, hs1, c0, cb0, hok]) | ((refine refRight_c (m := Reg.comM n v t) comM_by ?_)))
    exact hend 2 hcom
end
theorem set_same {α : Type} {l : List α} {i : Nat} {x : α} (h : l[i]? = some x) : l.set i x = l := by
  apply List.ext_getElem?
  intro j
  rw [List.getElem?_set]
  by_cases e : i = j
  · subst e; rw [if_pos rfl, h]; have := (List.getElem?_eq_some_iff.1 h).1; simp [this]
  · rw [if_neg e]
namespace Reg
variable {M : Reg}
theorem Ok.has8 (h : M.Ok) {i : Int} (hi : M.has i) : i.toNat < M.cs.length := by have := h.h8; have := h.n8; obtain ⟨a, b⟩ := hi; omega
theorem Ok.cli_mem (h : M.Ok) {i : Int} (hi : M.has i) : M.cli i ∈ M.cs := by
  have := h.has8 hi
  unfold cli; rw [List.getElem?_eq_getElem this]; exact List.getElem_mem this
theorem rm_sub (h : M.Ok) {i : Int} (hi : M.has i) : M.rm.sub i = (M.cli i).last := by
  simp only [RM.sub, rm, List.getElem?_map, front_get h.h8 h.n8 hi]; rfl
theorem rm_rep (h : M.Ok) {i : Int} (hi : M.has i) : M.rm.rep i = (M.cli i).reply := by
  simp only [RM.rep, rm, List.getElem?_map, front_get h.h8 h.n8 hi]; rfl
theorem rm_view (h : M.Ok) {i : Int} (hi : M.has i) : M.rm.view i = (M.cli i).view := by
  simp only [RM.view, rm, List.getElem?_map, front_get h.h8 h.n8 hi]; rfl
theorem rm_tg (h : M.Ok) {i : Int} (hi : M.has i) : M.rm.tg i = (M.cli i).tag := by
  simp only [RM.tg, rm, List.getElem?_map, front_get h.h8 h.n8 hi]; rfl
theorem rm_ans (h : M.Ok) {x : Sub} (hx : M.has x.target) : M.rm.ans x = M.ans x := by
  have e : M.pend.map M.rm.ansP = M.pend.map M.ansP := List.map_congr_left fun p hp => by
    unfold RM.ansP ansP; rw [rm_tg h (h.cl p hp)]
  unfold RM.ans ans RM.ansC RM.ans0
  rw [rm_sub h hx, rm_view h hx, rm_tg h hx]
  show (if _ then (⟨_, _, _, _, M.pend.map M.rm.ansP, _, _, _, _, _⟩ : Rep) else _) = _
  rw [show M.rm.pend.map M.rm.ansP = M.pend.map M.rm.ansP from rfl, e]; rfl
theorem Ok.rm (h : M.Ok) : M.rm.Ok := by
  have hf : ∀ c ∈ M.front, c ∈ M.cs := fun c hc => List.mem_of_mem_take hc
  refine ⟨h.cl, h.pl, h.ll, fun r hr => ?_, fun x hx => ?_⟩
  · obtain ⟨c, hc, rfl⟩ := List.mem_map.1 hr; exact h.rp c (hf c hc)
  · obtain ⟨c, hc, rfl⟩ := List.mem_map.1 hx; exact h.nm c (hf c hc)
theorem front_pend {p : List Pend} : ({ M with pend := p } : Reg).front = M.front := rfl
theorem submit_rm (h : M.Ok) {n : Int} {x : Sub} : M.rm.submit n x = ((M.submit n x).1.rm, (M.submit n x).2.1, (M.submit n x).2.2) := by
  unfold RM.submit submit
  by_cases hb : ¬ (subM n x).Ok ∨ ¬ M.has n ∨ ¬ M.has x.target
  · rw [if_pos hb, if_pos (show ¬ (subM n x).Ok ∨ ¬ M.rm.has n ∨ ¬ M.rm.has x.target from hb)]
  · rw [if_neg hb, if_neg (show ¬ (¬ (subM n x).Ok ∨ ¬ M.rm.has n ∨ ¬ M.rm.has x.target) from hb)]
    have hn : M.has n := Classical.byContradiction fun e => hb (.inr (.inl e))
    have hx : M.has x.target := Classical.byContradiction fun e => hb (.inr (.inr e))
    rw [rm_sub h hn, rm_rep h hn, rm_ans h hx]
    have ho : M.order.length = M.long.length + M.pend.length := by simp [order, orderL]
    by_cases e1 : x.num = (M.cli n).last.num
    · rw [if_pos e1, if_pos e1]
      by_cases e2 : x = (M.cli n).last
      · rw [if_pos e2, if_pos e2]
      · rw [if_neg e2, if_neg e2]
    · rw [if_neg e1, if_neg e1]
      by_cases e3 : x.num ≠ (M.cli n).last.num + 1
      · rw [if_pos e3, if_pos e3]
      · rw [if_neg e3, if_neg e3, ho]
        by_cases e4 : 512 ≤ M.long.length + M.pend.length ∨ 8 ≤ M.pend.length
        · rw [if_pos e4, if_pos (show 512 ≤ M.rm.long.length + M.rm.pend.length ∨ 8 ≤ M.rm.pend.length from e4)]
        · rw [if_neg e4, if_neg (show ¬ (512 ≤ M.rm.long.length + M.rm.pend.length ∨ 8 ≤ M.rm.pend.length) from e4)]
          have hfg := front_get h.h8 h.n8 hn
          have e5 : (M.front.map (·.view)).set n.toNat (M.cli n).view = M.front.map (·.view) := set_same (by rw [List.getElem?_map, hfg]; rfl)
          have e6 : (M.front.map (·.tag)).set n.toNat (M.cli n).tag = M.front.map (·.tag) := set_same (by rw [List.getElem?_map, hfg]; rfl)
          simp only [rm, front_pend, front_set, List.map_set, e5, e6]
          rfl
theorem commit_rm (h : M.Ok) {n : Int} {v : List UInt8} {t : Dig} : M.rm.commit n v t = ((M.commit n v t).1.rm, (M.commit n v t).2) := by
  unfold RM.commit commit
  by_cases hb : ¬ (comM n v t).Ok ∨ ¬ M.has n
  · rw [if_pos hb, if_pos (show ¬ (comM n v t).Ok ∨ ¬ M.rm.has n from hb)]
  · rw [if_neg hb, if_neg (show ¬ (¬ (comM n v t).Ok ∨ ¬ M.rm.has n) from hb)]
    have hn : M.has n := Classical.byContradiction fun e => hb (.inr e)
    rw [rm_sub h hn, rm_view h hn]
    by_cases e1 : ((v.getLast?.getD 0).toNat : Int) ≠ n ∨ (Go.Aff.L09.cnt n v : Int) ≠ (M.cli n).last.num
    · rw [if_pos e1, if_pos e1]
    · rw [if_neg e1, if_neg e1]
      by_cases e2 : Go.Aff.L09.cnt n (M.cli n).view = Go.Aff.L09.cnt n v
      · rw [if_pos e2, if_pos e2]
      · rw [if_neg e2, if_neg e2]
        have hfg := front_get h.h8 h.n8 hn
        have e5 : (M.front.map (·.last)).set n.toNat (M.cli n).last = M.front.map (·.last) := set_same (by rw [List.getElem?_map, hfg]; rfl)
        have e6 : (M.front.map (·.reply)).set n.toNat (M.cli n).reply = M.front.map (·.reply) := set_same (by rw [List.getElem?_map, hfg]; rfl)
        by_cases e3 : v.length ≤ M.long.length
        · rw [if_pos e3, if_pos (show v.length ≤ M.rm.long.length from e3)]
          simp only [rm, front_set, List.map_set, e5, e6]
          rfl
        · rw [if_neg e3, if_neg (show ¬ v.length ≤ M.rm.long.length from e3)]
          have ef : ({ M.setC n { M.cli n with view := v, tag := t } with by_ := n, long := v, tag := t, pend := cut n (Go.Aff.L09.cnt n v) M.pend } : Reg).front = (M.setC n { M.cli n with view := v, tag := t }).front := rfl
          simp only [rm, ef, front_set, List.map_set, e5, e6]
          rfl
theorem mem_setC {c d : Cli} {n : Int} (h : d ∈ (M.setC n c).cs) : d = c ∨ d ∈ M.cs := by
  rcases List.mem_or_eq_of_mem_set h with h | h
  · exact .inr h
  · exact .inl h
theorem submit_ok (h : M.Ok) {n : Int} {x : Sub} : (M.submit n x).1.Ok := by
  unfold submit
  by_cases hb : ¬ (subM n x).Ok ∨ ¬ M.has n ∨ ¬ M.has x.target
  · rw [if_pos hb]; exact h
  · rw [if_neg hb]
    have hn : M.has n := Classical.byContradiction fun e => hb (.inr (.inl e))
    have hok : (subM n x).Ok := Classical.byContradiction fun e => hb (.inl e)
    have hs : x.Ok := by have := hok.1; simpa [Msg.FieldsOk, subM] using this
    split
    · split <;> exact h
    · split
      · exact h
      · split
        · exact h
        · rename_i e4
          refine ⟨by simpa [setC] using h.h8, h.n2, h.n8, ?_, ?_, h.ll, ?_, ?_, ?_⟩
          · intro p hp
            rcases List.mem_append.1 hp with hp | hp
            · exact h.cl p hp
            · simp at hp; subst hp; exact hn
          · simp; omega
          · intro c hc
            rcases mem_setC hc with rfl | hc
            · have : (M.ans x).pending.length ≤ 8 := by unfold ans; split <;> simpa using h.pl
              exact this
            · exact h.rp c hc
          · intro c hc
            rcases mem_setC hc with rfl | hc
            · have : (M.ans x).view.length ≤ 512 := by unfold ans; split <;> simpa using h.ll
              exact this
            · exact h.rv c hc
          · intro c hc
            rcases mem_setC hc with rfl | hc
            · have := hs.1; simp only [In] at this; exact ⟨by show 0 ≤ x.num; omega, this.2⟩
            · exact h.nm c hc
theorem cutP_sub {n k : Int} : ∀ {l : List Pend}, (cutP n k l).Sublist l
  | [] => List.Sublist.slnil
  | p :: l => by
    unfold cutP; split
    · exact List.sublist_cons_self ..
    · exact cutP_sub.trans (List.sublist_cons_self ..)
theorem cut_sub {n k : Int} {l : List Pend} : (cut n k l).Sublist l := by
  unfold cut; split
  · exact cutP_sub
  · exact List.Sublist.refl _
theorem commit_ok (h : M.Ok) {n : Int} {v : List UInt8} {t : Dig} : (M.commit n v t).1.Ok := by
  unfold commit
  by_cases hb : ¬ (comM n v t).Ok ∨ ¬ M.has n
  · rw [if_pos hb]; exact h
  · rw [if_neg hb]
    have hn : M.has n := Classical.byContradiction fun e => hb (.inr e)
    have hok : (comM n v t).Ok := Classical.byContradiction fun e => hb (.inl e)
    have hf : v ≠ [] ∧ ViewOk 8 v := by have := hok.1; simpa [Msg.FieldsOk, comM] using this
    have hset : (M.setC n { M.cli n with view := v, tag := t }).Ok := by
      refine ⟨by simpa [setC] using h.h8, h.n2, h.n8, h.cl, h.pl, h.ll, ?_, ?_, ?_⟩
      · intro c hc
        rcases mem_setC hc with rfl | hc
        · exact h.rp (M.cli n) (h.cli_mem hn)
        · exact h.rp c hc
      · intro c hc
        rcases mem_setC hc with rfl | hc
        · exact h.rv (M.cli n) (h.cli_mem hn)
        · exact h.rv c hc
      · intro c hc
        rcases mem_setC hc with rfl | hc
        · exact h.nm (M.cli n) (h.cli_mem hn)
        · exact h.nm c hc
    split
    · exact h
    · split
      · exact h
      · split
        · exact hset
        · exact ⟨hset.h8, hset.n2, hset.n8, fun p hp => h.cl p (cut_sub.subset hp), Nat.le_trans cut_sub.length_le h.pl, hf.2.2.1, hset.rp, hset.rv, hset.nm⟩
end Reg
attribute [local go_sem] Tryz.underlying123 repPs_2 repAt_2 repPs_4 repAt_4 Tryz.underlying37
structure Bo (σ0 s : AST) (j k i1 i2 i3 i4 : Nat) (M N : Reg) (F : List (Nat × AObj)) : Prop where
  p : ∃ R, R.plain = M ∧ PF σ0 s j R F
  q : QF σ0 s k i1 i2 i3 i4 N.rm F
  jk : j ∉ [k, i1, i2, i3, i4]
section
variable {σ0 s s2 : AST} {j k i1 i2 i3 i4 : Nat} {M N : Reg} {F : List (Nat × AObj)} {K : AV → AST → Prop}
theorem Bo.ext (h : Bo σ0 s j k i1 i2 i3 i4 M N F) (e : Ext s s2) : Bo σ0 s2 j k i1 i2 i3 i4 M N F := by
  obtain ⟨R, hR, hP⟩ := h.p
  exact ⟨⟨R, hR, hP.ext e⟩, h.q.ext e, h.jk⟩
theorem Bo.more (h : Bo σ0 s j k i1 i2 i3 i4 M N F) {i : Nat} {o : AObj} (ho : s.objs[i]? = some o) (hj : i ≠ j) (hi : i ∉ [k, i1, i2, i3, i4]) : Bo σ0 s j k i1 i2 i3 i4 M N ((i, o) :: F) := by
  obtain ⟨R, hR, hP⟩ := h.p
  exact ⟨⟨R, hR, hP.more ho hj⟩, h.q.more ho hi, h.jk⟩
theorem Bo.less {y : Nat × AObj} (h : Bo σ0 s j k i1 i2 i3 i4 M N (y :: F)) : Bo σ0 s j k i1 i2 i3 i4 M N F := by
  obtain ⟨R, hR, hP⟩ := h.p
  exact ⟨⟨R, hR, hP.less⟩, h.q.less, h.jk⟩
theorem Bo.lt (h : Bo σ0 s j k i1 i2 i3 i4 M N F) : j < s.objs.length ∧ k < s.objs.length ∧ i1 < s.objs.length ∧ i2 < s.objs.length ∧ i3 < s.objs.length ∧ i4 < s.objs.length := by
  obtain ⟨R, hR, hP⟩ := h.p
  obtain ⟨t, o⟩ := hP.o
  exact ⟨(List.getElem?_eq_some_iff.1 o).1, h.q.lt⟩
theorem Bo.box (h : Bo σ0 s j k i1 i2 i3 i4 M N F) (o : AObj) : Bo σ0 (s.app [o]) j k i1 i2 i3 i4 M N ((s.objs.length, o) :: F) := by
  have hl := h.lt
  refine (h.ext (Ext.app _ _)).more objs_app0 (by omega) ?_
  simp only [List.mem_cons, List.not_mem_nil, or_false, not_or]; omega
theorem Bo.pf (h : Bo σ0 s j k i1 i2 i3 i4 M N F) : ∃ R Fk, R.plain = M ∧ PF σ0 s j R (Fk ++ F) ∧ ∀ s' R', PF σ0 s' j R' (Fk ++ F) → Bo σ0 s' j k i1 i2 i3 i4 R'.plain N F := by
  obtain ⟨R, hR, hP⟩ := h.p
  have hq := h.q
  obtain ⟨tk, o⟩ := hq.o
  obtain ⟨l, hl, o2⟩ := hq.o2
  have hjk := h.jk
  simp only [List.mem_cons, List.not_mem_nil, or_false, not_or] at hjk
  obtain ⟨a, b, c, d, e⟩ := hjk
  refine ⟨R, [(k, _), (i1, _), (i2, _), (i3, _), (i4, _)], hR, ((((hP.more hq.o4 (Ne.symm e)).more hq.o3 (Ne.symm d)).more o2 (Ne.symm c)).more hq.o1 (Ne.symm b)).more o (Ne.symm a), fun s' R' h' => ?_⟩
  have f := fun x hx => (h'.f x hx).2
  refine ⟨⟨R', rfl, h'.less.less.less.less.less⟩, ⟨h'.x, hq.jn, hq.nd, hq.n0, hq.n8, hq.l1, hq.l2, hq.l3, hq.l4, ⟨tk, f (k, _) (by simp)⟩, f (i1, _) (by simp), ⟨l, hl, f (i2, _) (by simp)⟩, f (i3, _) (by simp), f (i4, _) (by simp), fun x hx => ⟨(hq.f x hx).1, f x (by simp [hx])⟩⟩, h.jk⟩
theorem Bo.qf (h : Bo σ0 s j k i1 i2 i3 i4 M N F) : ∃ o, QF σ0 s k i1 i2 i3 i4 N.rm ((j, o) :: F) ∧ ∀ s' N', QF σ0 s' k i1 i2 i3 i4 (Reg.rm N') ((j, o) :: F) → Bo σ0 s' j k i1 i2 i3 i4 M N' F := by
  obtain ⟨R, hR, hP⟩ := h.p
  obtain ⟨t, o⟩ := hP.o
  refine ⟨_, h.q.more o h.jk, fun s' N' h' => ⟨⟨R, hR, h'.x, hP.jn, hP.h8, ⟨t, (h'.f _ (List.mem_cons_self ..)).2⟩, fun x hx => ⟨(hP.f x hx).1, (h'.f x (List.mem_cons_of_mem _ hx)).2⟩⟩, h'.less, h.jk⟩⟩
theorem bSubmit_c (h : Bo σ0 s j k i1 i2 i3 i4 M N F) (hM : M.Ok) {n : Int} {x : Sub} (hK : ∀ t s', Bo σ0 s' j k i1 i2 i3 i4 (M.submit n x).1 N F → K (.tuple [repV t (M.submit n x).2.1, .int .i64 (M.submit n x).2.2]) s') :
    TCalls Tryz.prog 77 [.ptr (some (j, [])), .int .i64 n, subV x] s K := by
  obtain ⟨R, Fk, rfl, hP, hb⟩ := h.pf
  exact rgSubmit_c hP hM fun t s' R' hR' hP' => hK t s' (hR' ▸ hb s' R' hP')
theorem bCommit_c (h : Bo σ0 s j k i1 i2 i3 i4 M N F) (hM : M.Ok) {n : Int} {v : List UInt8} {t : Dig} (hK : ∀ s', Bo σ0 s' j k i1 i2 i3 i4 (M.commit n v t).1 N F → K (.int .i64 (M.commit n v t).2) s') :
    TCalls Tryz.prog 35 [.ptr (some (j, [])), .int .i64 n, .str v, .dig t] s K := by
  obtain ⟨R, Fk, rfl, hP, hb⟩ := h.pf
  exact rgCommit_c hP hM fun s' R' hR' hP' => hK s' (hR' ▸ hb s' R' hP')
theorem bRSubmit_c (h : Bo σ0 s j k i1 i2 i3 i4 M N F) (hN : N.Ok) {n : Int} {x : Sub} (hK : ∀ t s', Bo σ0 s' j k i1 i2 i3 i4 M (N.submit n x).1 F → K (.tuple [repV t (N.submit n x).2.1, .int .i64 (N.submit n x).2.2]) s') :
    TCalls Tryz.prog 38 [.ptr (some (k, [])), .int .i64 n, subV x] s K := by
  obtain ⟨o, hQ, hb⟩ := h.qf
  refine refSubmit_c hQ hN.rm fun t s' hQ' => ?_
  have e := Reg.submit_rm hN (n := n) (x := x)
  rw [e] at hQ' ⊢
  exact hK t s' (hb s' _ hQ')
theorem bRCommit_c (h : Bo σ0 s j k i1 i2 i3 i4 M N F) (hN : N.Ok) {n : Int} {v : List UInt8} {t : Dig} (hK : ∀ s', Bo σ0 s' j k i1 i2 i3 i4 M (N.commit n v t).1 F → K (.int .i64 (N.commit n v t).2) s') :
    TCalls Tryz.prog 39 [.ptr (some (k, [])), .int .i64 n, .str v, .dig t] s K := by
  obtain ⟨o, hQ, hb⟩ := h.qf
  refine refCommit_c hQ hN.rm fun s' hQ' => ?_
  have e := Reg.commit_rm hN (n := n) (v := v) (t := t)
  rw [e] at hQ' ⊢
  exact hK s' (hb s' _ hQ')
theorem after_c {y : Rep} {t : Tk} {me : Int} {σ : AST} (hl : y.pending.length ≤ 1000) (hv : y.view.length ≤ 1000) (hK : K (.str (orderL y.view y.pending ++ [bch me])) σ) : TCalls Tryz.prog 28 [repV t y, .int .i64 me] σ K := by
  refine TCalls.drop ?_
  have hb0 : (σ.app [.cells (repV t y)]).objs[σ.objs.length]? = some (.cells (repV t y)) := objs_app0
  have c0 := cellAt_known hb0
  refine tcalls_walk Tryz.f28 _ [.tmp 4] Tryz.func28 rfl rfl rfl mixed (Nat.le_of_ble_eq_true rfl) rfl fun hlen => ?_
  repeat' (first | (simp -dsimp only [↓reduceIte, go_sem, c0, cellAt_growS]) | (refine conv_mk ?_))
  refine awp_rounds (fun (i : Nat) τ s' => ∃ tk', i ≤ y.pending.length ∧ Gr (σ.app [.cells (repV t y)]) s' tk' (orderL y.view (y.pending.take i)).length ∧ τ 1 = .int .i64 me ∧ τ 2 = .ptr (some (σ.objs.length, [])) ∧ τ 5 = .slice tk' (u8s (orderL y.view (y.pending.take i))) ∧ τ 6 = .int .i64 i) (fun i => y.pending.length - i) 0 ?_ ?_
  · refine ⟨growT (σ.app [.cells (repV t y)]) .full, by omega, ?_, ?_, ?_, ?_, ?_⟩ <;> (try simp only [go_sem]) <;> (try rfl)
    · have := (Gr.start (σ := σ.app [.cells (repV t y)]) (n := 0) (e := 1)).grow (m := y.view.length)
      simpa [orderL] using this
    · simp [orderL]
  · rintro i τ s' ⟨tk', hi, hg, t1, t2, t5, t6⟩
    have c1 := cellAt_known (ext_known hg.x hb0)
    have hol : (orderL y.view (y.pending.take i)).length = y.view.length + i := by simp [orderL]; omega
    by_cases hil : i < y.pending.length
    · have hi1 : (i : Int) < y.pending.length := by omega
      obtain ⟨z, hz, _⟩ := get_of_lt hil
      have hb := bch_any (n := z.client)
      have hnx := orderL_next (long := y.view) hz
      repeat' (first | (simp -dsimp only [↓reduceIte, go_sem, t1, t2, t5, t6, hi1, hb, c1]) | (refine arr_intro fun _ => ?_) | (rw [wrap_i64 (by omega) (by omega)]) | (refine nth_get hz ?_) | (refine build_u8 ?_) | (refine append_bytes E51 S51 hg.c (by rw [hol]; simp; omega) (by rw [hol]; simp [maxL]; omega) ?_))
      refine later_intro ⟨i + 1, by omega, growT s' tk', by omega, ?_, ?_, ?_, ?_, ?_⟩ <;> (try simp only [go_sem, t1, t2, t5, t6, hnx]) <;> (try rfl)
      have := hg.grow (m := y.view.length + i + 1)
      simpa [hol] using this
    · have hi1 : ¬ (i : Int) < y.pending.length := by omega
      have he : i = y.pending.length := by omega
      subst he
      rw [List.take_length] at t5 hg hol
      have hb := bch_any (n := me)
      repeat' (first | (simp -dsimp only [↓reduceIte, go_sem, t1, t2, t5, t6, hi1, c1, hb]) | (refine arr_intro fun _ => ?_) | (refine build_u8 ?_) | (refine append_bytes E51 S51 hg.c (by rw [hol]; simp; omega) (by rw [hol]; simp [maxL]; omega) ?_))
      exact ⟨((Ext.app _ _).trans hg.x).grow (by rcases hg.t with h | ⟨q, h, hq⟩; exact .inl h; exact .inr ⟨q, h, by simpa [AST.app] using hq⟩), rfl, by simpa [AV.strip] using hK⟩
end
end Go.Aff.L10

namespace Go.Aff.L10
open Go.Proofs Go.Aff Go.Aff.L01 Classical
namespace Reg
variable {M : Reg}
theorem cli_setC {i m : Int} {c : Cli} (h : M.Ok) (hi : M.has i) (hm : M.has m) : (M.setC i c).cli m = if m = i then c else M.cli m := by
  have h1 := h.has8 hi
  have h2 := h.has8 hm
  unfold setC cli
  simp only [List.getElem?_set]
  by_cases e : m = i
  · subst e; simp [h1]
  · have : i.toNat ≠ m.toNat := by obtain ⟨a, b⟩ := hi; obtain ⟨c, d⟩ := hm; omega
    rw [if_neg this, if_neg e]
theorem reg0_ok {n : Int} (h0 : 2 ≤ n) (h1 : n ≤ 8) : (reg0 n).Ok := ⟨rfl, h0, h1, fun p hp => by simp [reg0] at hp, by simp [reg0], by simp [reg0], fun c hc => by simp [reg0] at hc; subst hc; decide, fun c hc => by simp [reg0] at hc; subst hc; decide, fun c hc => by simp [reg0] at hc; subst hc; decide⟩
end Reg
end Go.Aff.L10

namespace Go.Aff.L10
open Go.Proofs Go.Aff Go.Aff.L01 Classical
set_option maxRecDepth 20000
attribute [-go_sem] cellAt_new
attribute [-simp] List.length_flatMap
attribute [local go_sem] fits3 fits9 fits34
structure Rdr where
  s : List UInt8
  at_ : Int
  e : Int
def rdr0 : Rdr := ⟨[], 0, 0⟩
def rdrPs (x : Rdr) : List AV := [.str x.s, .int .i64 x.at_, .int .i64 x.e]
abbrev rdrV (x : Rdr) : AV := .agg (rdrPs x)
theorem rdrPs_0 {x : Rdr} : (rdrPs x)[0]? = some (.str x.s) := nr rfl
theorem rdrAt_0 {x : Rdr} {v : AV} : partIs Tryz.prog 133 (rdrPs x) 0 v = fits Tryz.prog 9 v := by rw [partIs_of (o := 0) (T := 9) (by kernel_rfl)]; simp [rdrPs, AV.sizes, AV.size]
theorem rdrSet_0 {x : Rdr} {y : List UInt8} : (rdrPs x).set 0 (.str y) = rdrPs { x with s := y } := nr rfl
theorem rdrPs_1 {x : Rdr} : (rdrPs x)[1]? = some (.int .i64 x.at_) := nr rfl
theorem rdrAt_1 {x : Rdr} {v : AV} : partIs Tryz.prog 133 (rdrPs x) 1 v = fits Tryz.prog 3 v := by rw [partIs_of (o := 1) (T := 3) (by kernel_rfl)]; simp [rdrPs, AV.sizes, AV.size]
theorem rdrSet_1 {x : Rdr} {y : Int} : (rdrPs x).set 1 (.int .i64 y) = rdrPs { x with at_ := y } := nr rfl
theorem rdrPs_2 {x : Rdr} : (rdrPs x)[2]? = some (.int .i64 x.e) := nr rfl
theorem rdrAt_2 {x : Rdr} {v : AV} : partIs Tryz.prog 133 (rdrPs x) 2 v = fits Tryz.prog 24 v := by rw [partIs_of (o := 2) (T := 24) (by kernel_rfl)]; simp [rdrPs, AV.sizes, AV.size]
theorem rdrSet_2 {x : Rdr} {y : Int} : (rdrPs x).set 2 (.int .i64 y) = rdrPs { x with e := y } := nr rfl
theorem zero_rdr : zeroA Tryz.prog 12 133 = .agg (rdrPs rdr0) := by kernel_rfl
theorem zt_rdr : ZeroOf Tryz.prog 133 (.agg (rdrPs rdr0)) = True := eq_true ⟨_, _, rfl, rfl, rfl, rfl, rfl⟩
theorem built_rdr : Built Tryz.prog 133 = True := eq_true (by unfold Built; rw [Tryz.underlying133]; decide +kernel)
attribute [local go_sem] rdrPs_0 rdrAt_0 rdrPs_1 rdrAt_1 rdrSet_1 rdrPs_2 rdrAt_2 rdrSet_2 Tryz.underlying133

theorem prog_num {s : List UInt8} {i : Int} (h : (numR s i).2.2 = 0) : i < (numR s i).2.1 ∧ (numR s i).2.1 ≤ s.length := by
  unfold numR at h ⊢
  by_cases h1 : i < 0 ∨ (s.length : Int) < i
  · rw [if_pos h1] at h; simp at h
  · rw [if_neg h1] at h ⊢
    have := numP_prog (s := s) (q := i.toNat) (by omega) h
    omega
theorem prog_text {s : List UInt8} {i : Int} (h : (textR s i).2.2 = 0) : i < (textR s i).2.1 ∧ (textR s i).2.1 ≤ s.length := by
  unfold textR at h ⊢
  by_cases h1 : i < 0 ∨ (s.length : Int) < i
  · rw [if_pos h1] at h; simp at h
  · rw [if_neg h1] at h ⊢
    have := textP_prog (s := s) (q := i.toNat) (by omega) h
    omega
theorem readL_prog {α : Type} {one : Nat → α × Int × Int} {s : List UInt8} : ∀ (k p : Nat) (acc : List α), s.length - p ≤ k → p ≤ s.length → (readL one s p acc).2.2 = 0 → (p : Int) < (readL one s p acc).2.1 ∧ (readL one s p acc).2.1 ≤ s.length := by
  intro k
  induction k with
  | zero =>
    intro p acc hk hp h
    have : p = s.length := by omega
    rw [readL, if_pos this] at h; simp at h
  | succ k ih =>
    intro p acc hk hp h
    rw [readL] at h ⊢
    by_cases h1 : p = s.length
    · rw [if_pos h1] at h; simp at h
    · rw [if_neg h1] at h ⊢
      by_cases h2 : bAt s p = 41
      · rw [if_pos h2]; dsimp only; omega
      · rw [if_neg h2] at h ⊢
        by_cases h3 : 512 ≤ acc.length
        · rw [if_pos h3] at h; simp at h
        · rw [if_neg h3] at h ⊢
          by_cases h4 : (one p).2.2 ≠ 0
          · rw [if_pos h4] at h; exact absurd h h4
          · rw [if_neg h4] at h ⊢
            by_cases h5 : (p : Int) < (one p).2.1 ∧ (one p).2.1 ≤ s.length
            · rw [dif_pos h5] at h ⊢
              have := ih (one p).2.1.toNat _ (by omega) (by omega) h
              omega
            · rw [dif_neg h5] at h; simp at h
theorem readR_prog {α : Type} {one : Nat → α × Int × Int} {s : List UInt8} {i : Int} (h : (readR one s i).2.2 = 0) : i < (readR one s i).2.1 ∧ (readR one s i).2.1 ≤ s.length := by
  unfold readR at h ⊢
  by_cases h1 : i < 0 ∨ (s.length : Int) < i
  · rw [if_pos h1] at h; simp at h
  · rw [if_neg h1] at h ⊢
    by_cases h2 : i.toNat = s.length
    · rw [if_pos h2] at h; simp at h
    · rw [if_neg h2] at h ⊢
      by_cases h3 : bAt s i.toNat ≠ 40
      · rw [if_pos h3] at h; simp at h
      · rw [if_neg h3] at h ⊢
        have := readL_prog (one := one) _ (i.toNat + 1) [] (Nat.le_refl _) (by omega) h
        omega

def slV {α : Type} (f : α → AV) (l : List α) : AV := .slice (tk' l) (l.map f)
theorem tupL_slV {α : Type} {f : α → AV} {x : List α × Int × Int} : tupL f x = .tuple [slV f x.1, .int .i64 x.2.1, .int .i64 x.2.2] := by
  unfold tupL slV tk'
  split <;> simp_all
theorem set_set {s : AST} {j : Nat} {a b : AObj} : (s.set j a).set j b = s.set j b := by simp [AST.set]

structure RF (σ0 s : AST) (T : List (Nat × Nat)) (j : Nat) (r : Rdr) (F : List (Nat × AObj)) : Prop where
  x : Ext σ0 s
  t : s.toks = T
  jn : σ0.objs.length ≤ j
  o : s.objs[j]? = some (.cells (rdrV r))
  f : ∀ x ∈ F, x.1 ≠ j ∧ s.objs[x.1]? = some x.2
  p : r.e = 0 → 0 ≤ r.at_ ∧ r.at_ ≤ r.s.length
  l : r.s.length ≤ 9223372036854775807
section
variable {σ0 s : AST} {T : List (Nat × Nat)} {j : Nat} {r : Rdr} {F G : List (Nat × AObj)}
theorem RF.step {a e : Int} (h : RF σ0 s T j r F) (hp : e = 0 → r.at_ < a ∧ a ≤ r.s.length ∧ 0 ≤ r.at_) : RF σ0 (s.set j (.cells (rdrV { r with at_ := a, e := e }))) T j { r with at_ := a, e := e } F := by
  have hj := (List.getElem?_eq_some_iff.1 h.o).1
  refine ⟨h.x.set h.jn, h.t, h.jn, ?_, fun x hx => ⟨(h.f x hx).1, ?_⟩, fun h0 => ?_, h.l⟩
  · simp only [AST.set]; rw [List.getElem?_set_self hj]
  · simp only [AST.set]; rw [List.getElem?_set_ne (fun e => (h.f x hx).1 e.symm)]; exact (h.f x hx).2
  · have := hp h0; dsimp only at *; omega
theorem RF.err {e : Int} (h : RF σ0 s T j r F) (he : e ≠ 0) : RF σ0 (s.set j (.cells (rdrV { r with e := e }))) T j { r with e := e } F := h.step (a := r.at_) (fun h0 => absurd h0 he)
theorem RF.mono (h : RF σ0 s T j r F) (hg : ∀ x ∈ G, x ∈ F) : RF σ0 s T j r G := ⟨h.x, h.t, h.jn, h.o, fun x hx => h.f x (hg x hx), h.p, h.l⟩
theorem RF.push {o : AObj} (h : RF σ0 s T j r F) : RF σ0 (s.app [o]) T j r ((s.objs.length, o) :: F) := by
  have hj : j < s.objs.length := (List.getElem?_eq_some_iff.1 h.o).1
  refine ⟨h.x.trans (Ext.app _ _), h.t, h.jn, objs_known_app h.o _, fun x hx => ?_, h.p, h.l⟩
  rcases List.mem_cons.1 hx with rfl | hx
  · exact ⟨by dsimp only; omega, objs_app0⟩
  · exact ⟨(h.f x hx).1, objs_known_app (h.f x hx).2 _⟩
theorem RF.app {l : List AObj} (h : RF σ0 s T j r F) : RF σ0 (s.app l) T j r F :=
  ⟨h.x.trans (Ext.app _ _), h.t, h.jn, objs_known_app h.o _, fun x hx => ⟨(h.f x hx).1, objs_known_app (h.f x hx).2 _⟩, h.p, h.l⟩
theorem RF.cell {k : Nat} {v : AV} (h : RF σ0 s T j r F) (hm : (k, AObj.cells v) ∈ F) (p : List Nat) : cellAt s k p = v.at p := cellAt_known (h.f _ hm).2 p
theorem RF.upd {k : Nat} {o o' : AObj} (h : RF σ0 s T j r ((k, o) :: F)) (hk : σ0.objs.length ≤ k) (hF : ∀ x ∈ F, x.1 ≠ k) : RF σ0 (s.set k o') T j r ((k, o') :: F) := by
  have h1 := h.f (k, o) (List.mem_cons_self ..)
  have hkl := (List.getElem?_eq_some_iff.1 h1.2).1
  refine ⟨h.x.set hk, h.t, h.jn, ?_, fun x hx => ?_, h.p, h.l⟩
  · simp only [AST.set]; rw [List.getElem?_set_ne h1.1]; exact h.o
  · rcases List.mem_cons.1 hx with rfl | hx
    · exact ⟨h1.1, by simp only [AST.set]; rw [List.getElem?_set_self hkl]⟩
    · have h2 := h.f x (List.mem_cons_of_mem _ hx)
      exact ⟨h2.1, by simp only [AST.set]; rw [List.getElem?_set_ne (fun e => hF x hx e.symm)]; exact h2.2⟩
end
def Rdr.int (r : Rdr) : Int × Rdr := if r.e ≠ 0 then (0, r) else ((numR r.s r.at_).1, { r with at_ := (numR r.s r.at_).2.1, e := (numR r.s r.at_).2.2 })
def Rdr.text (r : Rdr) : List UInt8 × Rdr := if r.e ≠ 0 then ([], r) else ((textR r.s r.at_).1, { r with at_ := (textR r.s r.at_).2.1, e := (textR r.s r.at_).2.2 })
abbrev intsR (s : List UInt8) (i : Int) : List Int × Int × Int := readR (numP s) s i
def Rdr.ints (r : Rdr) : List Int × Rdr := if r.e ≠ 0 then ([], r) else ((intsR r.s r.at_).1, { r with at_ := (intsR r.s r.at_).2.1, e := (intsR r.s r.at_).2.2 })
theorem withInt_c {r : Rdr} {T : List (Nat × Nat)} {j : Nat} {F : List (Nat × AObj)} {σ0 σ : AST} {K : AV → AST → Prop} (hR : RF σ0 σ T j r F) (hK : ∀ s, RF σ0 s T j r.int.2 F → K (.int .i64 r.int.1) s) : TCalls Tryz.prog 100 [.ptr (some (j, [])), .fn (.func 101) [] []] σ K := by
  refine tcalls_walk Tryz.f100 _ [.tmp 4] Tryz.func100 rfl rfl rfl mixed (Nat.le_of_ble_eq_true rfl) rfl fun hlen => ?_
  have c := cellAt_known hR.o
  have ho := hR.o
  have hj := (List.getElem?_eq_some_iff.1 hR.o).1
  have hl := hR.l
  have s1 : ∀ o, (σ.set j o).objs[j]? = some o := fun o => by simp only [AST.set]; rw [List.getElem?_set_self hj]
  have s2 : ∀ v p, cellAt (σ.set j (.cells v)) j p = v.at p := fun v p => cellAt_known (s1 _) p
  by_cases he : r.e = 0
  · have hp := hR.p he
    repeat' (first | (simp -dsimp only [↓reduceIte, go_sem, c, he, ho, s1, s2, tup3, tupT]) | (refine later_intro ⟨keeps_nil, ?_⟩) | (with_reducible refine awp_drawT (id := 4) (.op 0 2 (.op 1 2 (.op 2 2 (.op 3 2 (.op 4 2 (.op 5 2 (.op 6 2 (.op 7 2 (.op 8 2 (.op 9 1 (.op 10 2 (.op 11 2 (.op 12 2 (.op 13 2 (.op 14 2 (.op 15 2 (.op 16 2 .nil))))))))))))))))) (by kernel_rfl) ?_) | (refine L01.readNumber_c (by omega) (by omega) ?_))
    have e : r.int = ((numR r.s r.at_).1, { r with at_ := (numR r.s r.at_).2.1, e := (numR r.s r.at_).2.2 }) := by rw [Rdr.int, if_neg (by simp [he])]
    rw [e] at hK
    refine hK _ ?_
    rw [set_set]
    exact hR.step fun h0 => by have := prog_num h0; omega
  · repeat' (first | (simp -dsimp only [↓reduceIte, go_sem, c, he, ho]) | (refine guardV_split (fun h => ?_) (fun h => ?_) <;> (try rw [h]) <;> (try simp at h) <;> (try (exfalso; omega))))
    have e : r.int = (0, r) := by rw [Rdr.int, if_pos he]
    rw [e] at hK
    exact hK _ hR
theorem withText_c {r : Rdr} {T : List (Nat × Nat)} {j : Nat} {F : List (Nat × AObj)} {σ0 σ : AST} {K : AV → AST → Prop} (hR : RF σ0 σ T j r F) (hK : ∀ s, RF σ0 s T j r.text.2 F → K (.str r.text.1) s) : TCalls Tryz.prog 137 [.ptr (some (j, [])), .fn (.func 138) [] []] σ K := by
  refine tcalls_walk Tryz.f137 _ [.tmp 4] Tryz.func137 rfl rfl rfl mixed (Nat.le_of_ble_eq_true rfl) rfl fun hlen => ?_
  have c := cellAt_known hR.o
  have ho := hR.o
  have hj := (List.getElem?_eq_some_iff.1 hR.o).1
  have hl := hR.l
  have s1 : ∀ o, (σ.set j o).objs[j]? = some o := fun o => by simp only [AST.set]; rw [List.getElem?_set_self hj]
  have s2 : ∀ v p, cellAt (σ.set j (.cells v)) j p = v.at p := fun v p => cellAt_known (s1 _) p
  by_cases he : r.e = 0
  · have hp := hR.p he
    repeat' (first | (simp -dsimp only [↓reduceIte, go_sem, c, he, ho, s1, s2, tup3, tupT]) | (refine later_intro ⟨keeps_nil, ?_⟩) | (with_reducible refine awp_drawT (id := 4) (.op 0 2 (.op 1 2 (.op 2 2 (.op 3 2 (.op 4 2 (.op 5 2 (.op 6 2 (.op 7 2 (.op 8 2 (.op 9 1 (.op 10 2 (.op 11 2 (.op 12 2 (.op 13 2 (.op 14 2 (.op 15 2 (.op 16 2 .nil))))))))))))))))) (by kernel_rfl) ?_) | (refine L01.readText_c (by omega) (by omega) ?_))
    have e : r.text = ((textR r.s r.at_).1, { r with at_ := (textR r.s r.at_).2.1, e := (textR r.s r.at_).2.2 }) := by rw [Rdr.text, if_neg (by simp [he])]
    rw [e] at hK
    refine hK _ ?_
    rw [set_set]
    exact hR.step fun h0 => by have := prog_text h0; omega
  · repeat' (first | (simp -dsimp only [↓reduceIte, go_sem, c, he, ho]) | (refine guardV_split (fun h => ?_) (fun h => ?_) <;> (try rw [h]) <;> (try simp at h) <;> (try (exfalso; omega))))
    have e : r.text = ([], r) := by rw [Rdr.text, if_pos he]
    rw [e] at hK
    exact hK _ hR
theorem withInts_c {r : Rdr} {T : List (Nat × Nat)} {j : Nat} {F : List (Nat × AObj)} {σ0 σ : AST} {K : AV → AST → Prop} (hR : RF σ0 σ T j r F) (hK : ∀ s, RF σ0 s T j r.ints.2 F → K (slV (AV.int .i64) r.ints.1) s) : TCalls Tryz.prog 105 [.ptr (some (j, [])), .fn (.func 106) [] []] σ K := by
  refine tcalls_walk Tryz.f105 _ [.tmp 4] Tryz.func105 rfl rfl rfl mixed (Nat.le_of_ble_eq_true rfl) rfl fun hlen => ?_
  have c := cellAt_known hR.o
  have ho := hR.o
  have hj := (List.getElem?_eq_some_iff.1 hR.o).1
  have hl := hR.l
  have s1 : ∀ o, (σ.set j o).objs[j]? = some o := fun o => by simp only [AST.set]; rw [List.getElem?_set_self hj]
  have s2 : ∀ v p, cellAt (σ.set j (.cells v)) j p = v.at p := fun v p => cellAt_known (s1 _) p
  by_cases he : r.e = 0
  · have hp := hR.p he
    repeat' (first | (simp -dsimp only [↓reduceIte, go_sem, c, he, ho, s1, s2, tup3, tupT]) | (refine later_intro ⟨keeps_nil, ?_⟩) | (with_reducible refine awp_drawT (id := 4) (.op 0 2 (.op 1 2 (.op 2 2 (.op 3 2 (.op 4 2 (.op 5 2 (.op 6 2 (.op 7 2 (.op 8 2 (.op 9 1 (.op 10 2 (.op 11 2 (.op 12 2 (.op 13 2 (.op 14 2 (.op 15 2 (.op 16 2 .nil))))))))))))))))) (by kernel_rfl) ?_) | (refine L01.readNumbers_c (by omega) (by omega) ?_) | (rw [tupL_slV]))
    have e : r.ints = ((intsR r.s r.at_).1, { r with at_ := (intsR r.s r.at_).2.1, e := (intsR r.s r.at_).2.2 }) := by rw [Rdr.ints, if_neg (by simp [he])]
    rw [e] at hK
    refine hK _ ?_
    rw [set_set]
    exact hR.step fun h0 => by have := readR_prog h0; omega
  · repeat' (first | (simp -dsimp only [↓reduceIte, go_sem, c, he, ho]) | (refine guardV_split (fun h => ?_) (fun h => ?_) <;> (try rw [h]) <;> (try simp at h) <;> (try (exfalso; omega))))
    have e : r.ints = ([], r) := by rw [Rdr.ints, if_pos he]
    rw [e] at hK
    exact hK _ hR
theorem int_c {r : Rdr} {T : List (Nat × Nat)} {j : Nat} {F : List (Nat × AObj)} {σ0 σ : AST} {K : AV → AST → Prop} (h : RF σ0 σ T j r F) (hK : ∀ s, RF σ0 s T j r.int.2 F → K (.int .i64 r.int.1) s) : TCalls Tryz.prog 60 [.ptr (some (j, []))] σ K := by
  refine tcalls_walk Tryz.f60 _ [.tmp 2] Tryz.func60 rfl rfl rfl mixed (Nat.le_of_ble_eq_true rfl) rfl fun hlen => ?_
  simp -dsimp only [↓reduceIte, go_sem]
  refine withInt_c h fun s h => ?_
  repeat' (simp -dsimp only [↓reduceIte, go_sem])
  exact hK s h
theorem rtext_c {r : Rdr} {T : List (Nat × Nat)} {j : Nat} {F : List (Nat × AObj)} {σ0 σ : AST} {K : AV → AST → Prop} (h : RF σ0 σ T j r F) (hK : ∀ s, RF σ0 s T j r.text.2 F → K (.str r.text.1) s) : TCalls Tryz.prog 102 [.ptr (some (j, []))] σ K := by
  refine tcalls_walk Tryz.f102 _ [.tmp 2] Tryz.func102 rfl rfl rfl mixed (Nat.le_of_ble_eq_true rfl) rfl fun hlen => ?_
  simp -dsimp only [↓reduceIte, go_sem]
  refine withText_c h fun s h => ?_
  repeat' (simp -dsimp only [↓reduceIte, go_sem])
  exact hK s h
attribute [local go_sem] Tryz.underlying5 Tryz.underlying9 Tryz.underlying123
attribute [local go_sem] fits23 zt23 zero23 slice23
attribute [local go_sem] rdrPs_2 rdrAt_2 rdrSet_2 Tryz.underlying133

section
variable {s : AST} {j k : Nat} {o : AObj} {v : AV} {p : List Nat}
theorem cellAt_setS (h : k < s.objs.length) : cellAt (s.set k (.cells v)) k p = v.at p := cellAt_known (by simp only [AST.set]; rw [List.getElem?_set_self h]) p
theorem cellAt_setN (h : j ≠ k) : cellAt (s.set j o) k p = cellAt s k p := by simp only [cellAt, AST.set]; rw [List.getElem?_set_ne h]
theorem objs_setS (h : k < s.objs.length) : (s.set k o).objs[k]? = some o := by simp only [AST.set]; rw [List.getElem?_set_self h]
theorem objs_setN (h : j ≠ k) : (s.set j o).objs[k]? = s.objs[k]? := by simp only [AST.set]; rw [List.getElem?_set_ne h]
theorem length_set : (s.set j o).objs.length = s.objs.length := by simp [AST.set]
theorem RF.setO {σ0 : AST} {T : List (Nat × Nat)} {r : Rdr} {F : List (Nat × AObj)} (h : RF σ0 s T j r F) (hk : σ0.objs.length ≤ k) (hj : k ≠ j) (hF : ∀ x ∈ F, x.1 ≠ k) : RF σ0 (s.set k o) T j r F := by
  refine ⟨h.x.set hk, h.t, h.jn, by rw [objs_setN hj]; exact h.o, fun x hx => ⟨(h.f x hx).1, by rw [objs_setN (hF x hx).symm]; exact (h.f x hx).2⟩, h.p, h.l⟩
theorem RF.lt {σ0 : AST} {T : List (Nat × Nat)} {r : Rdr} {F : List (Nat × AObj)} (h : RF σ0 s T j r F) : ∀ x ∈ F, x.1 ≠ s.objs.length := fun x hx => by
  have := (List.getElem?_eq_some_iff.1 (h.f x hx).2).1; omega
theorem RF.le {σ0 : AST} {T : List (Nat × Nat)} {r : Rdr} {F : List (Nat × AObj)} (h : RF σ0 s T j r F) : σ0.objs.length ≤ s.objs.length := by
  have := h.jn; have := (List.getElem?_eq_some_iff.1 h.o).1; omega
end
def digOf (t : List UInt8) : Dig × Int := if h : t.length = 32 then (⟨t, h⟩, 0) else (dig0, if t.length < 32 then 5 else 6)
theorem digest_c {t : List UInt8} {σ : AST} {K : AV → AST → Prop} (hK : K (.tuple [.dig (digOf t).1, .int .i64 (digOf t).2]) σ) : TCalls Tryz.prog 139 [.str t] σ K := by
  refine TCalls.drop ?_
  refine tcalls_walk Tryz.f139 _ [.cell 2 32, .tmp 3] Tryz.func139 rfl rfl rfl mixed (Nat.le_of_ble_eq_true rfl) rfl fun hlen => ?_
  repeat' (first | (simp -dsimp only [↓reduceIte, go_sem, slice23 (σ := σ)]) | (refine arr_intro fun _ => ?_) | (refine guardV_split (fun h => ?_) (fun h => ?_) <;> (try rw [h]) <;> (try simp at h) <;> (try (exfalso; omega))))
  · have e : digOf t = (dig0, 5) := by unfold digOf; rw [dif_neg (by omega), if_pos (by omega)]
    rw [e] at hK
    exact ⟨Ext.app _ _, rfl, by simpa [AV.strip, AV.strips] using hK⟩
  · have e : digOf t = (dig0, 6) := by unfold digOf; rw [dif_neg (by omega), if_neg (by omega)]
    rw [e] at hK
    exact ⟨Ext.app _ _, rfl, by simpa [AV.strip, AV.strips] using hK⟩
  · have h32 : t.length = 32 := by omega
    have e : digOf t = (⟨t, h32⟩, 0) := by unfold digOf; rw [dif_pos h32]
    rw [e] at hK
    refine copy_dig Tryz.underlying123 (by kernel_rfl) ⟨_, Tryz.underlying5⟩ (dg := dig0) (by simp [AST.app]) h32 ?_
    repeat' (simp -dsimp only [↓reduceIte, go_sem])
    exact ⟨Ext.app _ _, rfl, by simpa [AV.strip, AV.strips] using hK⟩
noncomputable def Rdr.dig (r : Rdr) : Dig × Rdr := ((digOf r.text.1).1, if r.text.2.e = 0 ∧ (digOf r.text.1).2 ≠ 0 then { r.text.2 with e := 6 } else r.text.2)
theorem rdig_c {r : Rdr} {T : List (Nat × Nat)} {j : Nat} {F : List (Nat × AObj)} {σ0 σ : AST} {K : AV → AST → Prop} (h : RF σ0 σ T j r F) (hK : ∀ s, RF σ0 s T j r.dig.2 F → K (.dig r.dig.1) s) : TCalls Tryz.prog 103 [.ptr (some (j, []))] σ K := by
  refine tcalls_walk Tryz.f103 _ [.cell 2 32] Tryz.func103 rfl rfl rfl mixed (Nat.le_of_ble_eq_true rfl) rfl fun hlen => ?_
  simp -dsimp only [↓reduceIte, go_sem]
  have hle := h.le
  have hlt := h.lt
  have hR := h.push (o := .cells (.dig dig0))
  generalize hk : σ.objs.length = k at hR hle hlt
  refine rtext_c hR fun s hR => ?_
  simp -dsimp only [↓reduceIte, go_sem, hk]
  refine digest_c ?_
  have hR := hR.push (o := .cells (.dig (digOf r.text.1).1))
  repeat' (simp -dsimp only [↓reduceIte, go_sem, hk])
  generalize hk2 : s.objs.length = k2 at hR
  generalize s.app [.cells (.dig (digOf r.text.1).1)] = s at hR
  have c := cellAt_known hR.o
  have ho := hR.o
  have hj := (List.getElem?_eq_some_iff.1 hR.o).1
  have hk1 := hR.f (k, .cells (.dig dig0)) (by simp)
  have hk2 := hR.f (k2, .cells (.dig (digOf r.text.1).1)) (by simp)
  dsimp only at hk1 hk2
  have hkl := (List.getElem?_eq_some_iff.1 hk1.2).1
  have c2 := cellAt_known hk2.2
  have n1 := hk1.1
  have n2 := hk2.1
  have n3 := hk2.1.symm
  have n4 := hk1.1.symm
  have m := hR.mono (G := F) (by simp +contextual)
  repeat' (first | (simp -dsimp only [↓reduceIte, go_sem, c, ho, hk1.2, hk2.2, c2, cellAt_setN, cellAt_setS, objs_setN, objs_setS, length_set, n1, n2, n3, n4, hkl]) | (refine guardV_split (fun h => ?_) (fun h => ?_) <;> (try rw [h]) <;> (try simp at h) <;> (try (exfalso; omega))))
  · have e : r.dig = ((digOf r.text.1).1, { r.text.2 with e := 6 }) := by simp [Rdr.dig, *]
    rw [e] at hK
    exact hK _ ((m.err (by decide)).setO hle n1 hlt)
  all_goals
    have e : r.dig = ((digOf r.text.1).1, r.text.2) := by simp [Rdr.dig, *]
    rw [e] at hK
    exact hK _ (m.setO hle n1 hlt)
attribute [local go_sem] subPs_0 subAt_0 subSet_0 subPs_1 subAt_1 subSet_1 subPs_2 subAt_2 subSet_2 subPs_3 subAt_3 subSet_3 subPs_4 subAt_4 subSet_4 subPs_5 subAt_5 subSet_5 sizes_sub shapes_sub fits_sub zero_sub zt_sub built_sub pendPs_0 pendAt_0 pendSet_0 pendPs_1 pendAt_1 pendSet_1 pendPs_2 pendAt_2 pendSet_2 pendPs_3 pendAt_3 pendSet_3 pendPs_4 pendAt_4 pendSet_4 pendPs_5 pendAt_5 pendSet_5 sizes_pend fits_pend zero_pend zt_pend built_pend repPs_0 repAt_0 repSet_0 repPs_1 repAt_1 repSet_1 repPs_2 repAt_2 repSet_2 repPs_3 repAt_3 repSet_3 repPs_4 repAt_4 repSet_4 repPs_5 repAt_5 repSet_5 repPs_6 repAt_6 repSet_6 repPs_7 repAt_7 repSet_7 repPs_8 repAt_8 repSet_8 repPs_9 repAt_9 repSet_9 sizes_rep shapes_rep fits_rep zero_rep zt_rep built_rep Tryz.underlying37 blobPs_0 blobAt_0 blobSet_0 blobPs_1 blobAt_1 blobSet_1 blobPs_2 blobAt_2 blobSet_2 blobPs_3 blobAt_3 blobSet_3 sizes_blob shapes_blob fits_blob zero_blob zt_blob built_blob msgPs_0 msgAt_0 msgPs_2 msgAt_2 msgSet_2 msgPs_3 msgAt_3 msgSet_3 msgPs_4 msgAt_4 msgSet_4 msgPs_5 msgAt_5 msgSet_5 msgPs_6 msgAt_6 msgSet_6 msgPs_7 msgAt_7 msgSet_7 msgPs_8 msgAt_8 msgSet_8 msgPs_9 msgAt_9 msgSet_9 Tryz.underlying42
attribute [local go_sem] fits26 fits31
attribute [local go_sem] bin_bool_ne appc appn

noncomputable section
def Rdr.pend (r : Rdr) : Pend × Rdr :=
  (⟨r.int.1, r.int.2.int.1, r.int.2.int.2.int.1, r.int.2.int.2.int.2.int.1, r.int.2.int.2.int.2.int.2.dig.1, r.int.2.int.2.int.2.int.2.dig.2.dig.1⟩, r.int.2.int.2.int.2.int.2.dig.2.dig.2)
def Rdr.pends : Nat → Rdr → List Pend × Rdr
  | 0, r => ([], r)
  | k + 1, r => if r.e ≠ 0 then ([], r) else (r.pend.1 :: (Rdr.pends k r.pend.2).1, (Rdr.pends k r.pend.2).2)
def Rdr.rep1 (r : Rdr) : Rep × Int × Rdr :=
  let a := r.int; let b := a.2.int; let c := b.2.text; let d := c.2.dig; let n := d.2.int
  ({ rep0 with num := a.1, last := b.1, view := c.1, commit := d.1 }, n.1, if n.2.e = 0 ∧ ¬ In 0 8 n.1 then { n.2 with e := 6 } else n.2)
def Rdr.rep2 (x : Rep) (r : Rdr) : Rep × Rdr :=
  let a := r.int; let b := a.2.text; let c := b.2.dig; let d := c.2.text; let e := d.2.dig
  ({ x with vnum := a.1, value := b.1, data := c.1, seen := d.1, seenTag := e.1 }, e.2)
def Rdr.rep (r : Rdr) : Rep × Rdr :=
  let x := r.rep1; let l := Rdr.pends x.2.1.toNat x.2.2; Rdr.rep2 { x.1 with pending := l.1 } l.2
end
theorem pends_err {k : Nat} {r : Rdr} (h : r.e ≠ 0) : Rdr.pends k r = ([], r) := by cases k <;> simp [Rdr.pends, h]
theorem E26 : ElemT Tryz.prog 35 138 68 96 := ⟨rfl, by kernel_rfl, by kernel_rfl, ⟨_, of_eq_true zt_pend⟩, by decide⟩
theorem size_pends {l : List Pend} : ∀ v ∈ l.map pendV, v.size = 68 := by
  intro v hv; obtain ⟨x, _, rfl⟩ := List.mem_map.1 hv; simp only [AV.size, sizes_pend]
theorem canApp_toks {s s' : AST} {tk : Tk} {n e : Nat} (h : canApp s tk n e) (ht : s'.toks = s.toks) : canApp s' tk n e := by
  cases tk <;> simp_all [canApp]
theorem append_pend {acc : List Pend} {p : Pend} {tk tk2 : Tk} {σ : AST} {K : AV → AST → Prop} (hca : canApp σ tk acc.length 68) (hl : acc.length ≤ 1000) (hK : K (.slice (growT σ tk) ((acc ++ [p]).map pendV)) (growS σ tk (acc.length + 1) 68)) :
    appendW Tryz.prog ⟨[35, 35]⟩ (.slice tk (acc.map pendV)) (.slice tk2 [pendV p]) σ K := by
  refine append_slice E26 rfl (by rw [List.length_map]; exact hca) (size_pends (l := [p])) size_pends (by simp; omega) (by simp [maxL]; omega) ?_
  simpa using hK
theorem RF.growS {σ0 s : AST} {T : List (Nat × Nat)} {j : Nat} {r : Rdr} {F : List (Nat × AObj)} {tk : Tk} {n e : Nat} (h : RF σ0 s T j r F) (ht : tkNew σ0 tk) : RF σ0 (Go.Aff.growS s tk n e) (Go.Aff.growS s tk n e).toks j r F :=
  ⟨h.x.grow ht, rfl, h.jn, by rw [growS_objs]; exact h.o, fun x hx => ⟨(h.f x hx).1, by rw [growS_objs]; exact (h.f x hx).2⟩, h.p, h.l⟩

theorem rans_c {r : Rdr} {T : List (Nat × Nat)} {j : Nat} {F : List (Nat × AObj)} {σ0 σ : AST} {K : AV → AST → Prop} (h : RF σ0 σ T j r F) (hK : ∀ s T' t, RF σ0 s T' j r.rep.2 F → K (repV t r.rep.1) s) : TCalls Tryz.prog 104 [.ptr (some (j, []))] σ K := by
  refine tcalls_walk Tryz.f104 _ [.cell 2 37] Tryz.func104 rfl rfl rfl mixed (Nat.le_of_ble_eq_true rfl) rfl fun hlen => ?_
  simp -dsimp only [↓reduceIte, go_sem]
  have hle := h.le
  have hlt := h.lt
  have h := h.push (o := .cells (repV .full rep0))
  generalize hk : σ.objs.length = k at h hle hlt
  refine int_c h fun s h => ?_
  simp -dsimp only [↓reduceIte, go_sem]
  refine int_c h fun s h => ?_
  simp -dsimp only [↓reduceIte, go_sem]
  refine rtext_c h fun s h => ?_
  simp -dsimp only [↓reduceIte, go_sem]
  refine rdig_c h fun s h => ?_
  repeat' (simp -dsimp only [↓reduceIte, go_sem, hk])
  have hle2 := h.le
  have hlt2 := h.lt
  have h := h.push (o := .cells (repV .full ⟨r.int.1, r.int.2.int.1, r.int.2.int.2.text.1, r.int.2.int.2.text.2.dig.1, rep0.pending, rep0.vnum, rep0.value, rep0.data, rep0.seen, rep0.seenTag⟩))
  have hX : r.rep1.1 = ⟨r.int.1, r.int.2.int.1, r.int.2.int.2.text.1, r.int.2.int.2.text.2.dig.1, rep0.pending, rep0.vnum, rep0.value, rep0.data, rep0.seen, rep0.seenTag⟩ := rfl
  rw [← hX] at h
  rw [← hX]
  generalize hk2 : s.objs.length = k2 at h hle2 hlt2
  refine int_c h fun s h => ?_
  have e1 : r.rep1.2.1 = r.int.2.int.2.text.2.dig.2.int.1 := rfl
  have e2 : r.rep1.2.2 = if r.int.2.int.2.text.2.dig.2.int.2.e = 0 ∧ ¬ In 0 8 r.int.2.int.2.text.2.dig.2.int.1 then { r.int.2.int.2.text.2.dig.2.int.2 with e := 6 } else r.int.2.int.2.text.2.dig.2.int.2 := rfl
  rw [← e1] at e2 ⊢
  have hre : r.rep = Rdr.rep2 { r.rep1.1 with pending := (Rdr.pends r.rep1.2.1.toNat r.rep1.2.2).1 } (Rdr.pends r.rep1.2.1.toNat r.rep1.2.2).2 := rfl
  have hX2 : r.rep1.1.pending = [] := rfl
  rw [hre] at hK
  generalize r.rep1.1 = X at *
  generalize r.rep1.2.1 = n at *
  generalize r.int.2.int.2.text.2.dig.2.int.2 = r2 at *
  clear hX e1 hre
  have hR := h
  clear h
  have c := cellAt_known hR.o
  have ho := hR.o
  have hj := (List.getElem?_eq_some_iff.1 hR.o).1
  repeat' (first | (simp -dsimp only [↓reduceIte, go_sem, hk2, c, ho]) | (refine guardV_split (fun h => ?_) (fun h => ?_) <;> (try rw [h]) <;> (try simp at h) <;> (try (exfalso; omega))) | (refine within_c ?_))
  all_goals
    obtain ⟨r3, h3, h⟩ : ∃ r3, r3 = r.rep1.2.2 ∧ RF σ0 _ T j r3 ((k2, .cells (repV .full X)) :: (k, .cells (repV .full rep0)) :: F) := by
      refine ⟨_, e2.symm, ?_⟩
      first
        | (rw [if_pos ⟨‹_›, ‹_›⟩]; exact hR.err (by decide))
        | (rw [if_neg (fun h => by simp_all)]; exact hR)
  all_goals
    rw [← h3] at e2 hK
    have hn : r3.e = 0 → 0 ≤ n ∧ n ≤ 8 := fun h0 => by
      by_cases hc : r2.e = 0 ∧ ¬ In 0 8 n
      · rw [if_pos hc] at e2; rw [e2] at h0; simp at h0
      · rw [if_neg hc] at e2; rw [e2] at h0; exact Classical.byContradiction fun hin => hc ⟨h0, hin⟩
    clear e2 h3 c ho hj
    have hi0 : (k2, AObj.cells (repV .full X)) = (k2, AObj.cells (repV .full { X with pending := [] })) := by rw [← hX2]
    rw [hi0] at h
    generalize hP : Rdr.pends n.toNat r3 = P at hK
    refine awp_rounds (fun (x : Nat × List Pend × Rdr) τ s => ∃ tk T', RF σ0 s T' j x.2.2 ((k2, .cells (repV tk { X with pending := x.2.1 })) :: (k, .cells (repV .full rep0)) :: F) ∧ tkNew σ0 tk ∧ canApp s tk x.2.1.length 68 ∧ (x.2.2.e = 0 → 0 ≤ n ∧ n ≤ 8) ∧ x.2.1.length ≤ x.1 ∧ x.1 ≤ n.toNat ∧
      x.2.1 ++ (Rdr.pends (n.toNat - x.1) x.2.2).1 = P.1 ∧ (Rdr.pends (n.toNat - x.1) x.2.2).2 = P.2 ∧ τ 0 = .ptr (some (j, [])) ∧ τ 2 = .ptr (some (k, [])) ∧ τ 3 = .ptr (some (k2, [])) ∧ τ 4 = .int .i64 n ∧ τ 5 = .int .i64 x.1) (fun x => n.toNat - x.1) (0, [], r3) ?_ ?_
    · refine ⟨.full, T, h, .inl rfl, trivial, hn, by simp, by simp, ?_, ?_, ?_, ?_, ?_, ?_, ?_⟩ <;> (try simp only [go_sem]) <;> (try rfl) <;> simp [hP]
    · clear h hR
      rintro ⟨i, acc, r'⟩ τ s ⟨tk, T', hR, htk, hca, hn, hal, hi, hP1, hP2, t0, t2, t3, t4, t5⟩
      dsimp only at hR hca hn hal hi hP1 hP2 t5 ⊢
      have c := cellAt_known hR.o
      have h2 := hR.f (k2, _) (List.mem_cons_self ..)
      have c2 := cellAt_known h2.2
      have hT := hR.t
      by_cases hgo : (i : Int) < n ∧ r'.e = 0
      · obtain ⟨hlt0, he⟩ := hgo
        have hn8 := hn he
        have hn2 : ∀ {q : Prop}, q → 0 ≤ n ∧ n ≤ 8 := fun _ => hn8
        repeat' (first | (simp -dsimp only [↓reduceIte, go_sem, t0, t2, t3, t4, t5, c, c2, he]) | (refine guardV_split (fun h => ?_) (fun h => ?_) <;> (try rw [h]) <;> (try simp at h) <;> (try (exfalso; omega))) | (with_reducible refine awp_drawU (id := 8) (.op 0 0 (.op 1 0 (.op 2 2 (.op 4 0 (.op 6 0 (.op 8 0 (.op 10 0 (.op 12 0 (.op 3 1 (.op 5 1 (.op 7 1 (.op 9 1 (.op 11 1 (.op 13 1 (.cut (.op 14 2 (.op 15 2 (.op 16 1 (.op 17 2 (.op 18 1 .nil)))))))))))))))))))) (by kernel_rfl) ?_))
        refine int_c hR fun s hR => ?_
        have q0 := (hR.f (k2, _) (List.mem_cons_self ..)).2
        repeat' (first | (simp -dsimp only [↓reduceIte, go_sem, t0, t2, t3, t4, t5]) | (with_reducible refine keeps_go ?_ ?_; focus (simp [keeps_cons, keeps_none, h2.2, q0]; done)))
        refine int_c hR fun s hR => ?_
        have q1 := (hR.f (k2, _) (List.mem_cons_self ..)).2
        repeat' (first | (simp -dsimp only [↓reduceIte, go_sem, t0, t2, t3, t4, t5]) | (with_reducible refine keeps_go ?_ ?_; focus (simp [keeps_cons, keeps_none, h2.2, q1, q0]; done)))
        refine int_c hR fun s hR => ?_
        have q2 := (hR.f (k2, _) (List.mem_cons_self ..)).2
        repeat' (first | (simp -dsimp only [↓reduceIte, go_sem, t0, t2, t3, t4, t5]) | (with_reducible refine keeps_go ?_ ?_; focus (simp [keeps_cons, keeps_none, h2.2, q2, q0, q1]; done)))
        refine int_c hR fun s hR => ?_
        have q3 := (hR.f (k2, _) (List.mem_cons_self ..)).2
        repeat' (first | (simp -dsimp only [↓reduceIte, go_sem, t0, t2, t3, t4, t5]) | (with_reducible refine keeps_go ?_ ?_; focus (simp [keeps_cons, keeps_none, h2.2, q3, q0, q1, q2]; done)))
        refine rdig_c hR fun s hR => ?_
        have q4 := (hR.f (k2, _) (List.mem_cons_self ..)).2
        repeat' (first | (simp -dsimp only [↓reduceIte, go_sem, t0, t2, t3, t4, t5]) | (with_reducible refine keeps_go ?_ ?_; focus (simp [keeps_cons, keeps_none, h2.2, q4, q0, q1, q2, q3]; done)))
        refine rdig_c hR fun s hR => ?_
        have q5 := (hR.f (k2, _) (List.mem_cons_self ..)).2
        repeat' (first | (simp -dsimp only [↓reduceIte, go_sem, t0, t2, t3, t4, t5]) | (with_reducible refine keeps_go ?_ ?_; focus (simp [keeps_cons, keeps_none, h2.2, q5, q0, q1, q2, q3, q4]; done)))
        have hca := canApp_toks (s' := s) hca (by rw [hR.t, hT])
        have hr : (⟨r'.int.1, r'.int.2.int.1, r'.int.2.int.2.int.1, r'.int.2.int.2.int.2.int.1, r'.int.2.int.2.int.2.int.2.dig.1, r'.int.2.int.2.int.2.int.2.dig.2.dig.1⟩ : Pend) = r'.pend.1 := rfl
        have hr2 : r'.int.2.int.2.int.2.int.2.dig.2.dig.2 = r'.pend.2 := rfl
        rw [hr]
        rw [hr2] at hR
        have hpd : Rdr.pends (n.toNat - i) r' = (r'.pend.1 :: (Rdr.pends (n.toNat - (i + 1)) r'.pend.2).1, (Rdr.pends (n.toNat - (i + 1)) r'.pend.2).2) := by
          rw [show n.toNat - i = (n.toNat - (i + 1)) + 1 by omega, Rdr.pends, if_neg (by simp [he])]
        rw [hpd] at hP1 hP2
        generalize r'.pend.1 = p at *
        generalize r'.pend.2 = r4 at *
        refine build_slice E26 rfl (by decide) (by intro v hv; simp at hv; subst hv; simp [go_sem]) ?_
        have hgl : ∀ m, k2 < (growS s tk m 68).objs.length := fun m => by rw [growS_objs]; exact (List.getElem?_eq_some_iff.1 q5).1
        have hgo : ∀ m, (growS s tk m 68).objs[k2]? = some (.cells (repV tk { X with pending := acc })) := fun m => by rw [growS_objs]; exact q5
        have hgc := fun m => cellAt_known (hgo m)
        repeat' (first | (simp -dsimp only [↓reduceIte, go_sem, t0, t2, t3, t4, t5, hgo, hgc, cellAt_known q5, q5]) | (refine later_intro ⟨keeps_nil, ?_⟩) | (rw [wrap_i64 (by omega) (by omega)]) | (refine append_pend hca (by omega) ?_))
        refine later_intro ⟨(i + 1, acc ++ [p], r4), by dsimp only; omega, growT s tk, _, (hR.growS htk).upd hle2 hlt2, htk.grow hR.x, ?_, hn2, ?_, ?_, ?_, ?_, ?_, ?_, ?_, ?_, ?_⟩ <;> (try simp only [go_sem, t0, t2, t3, t4, t5])
        · rw [canApp_set]; simp only [List.length_append, List.length_cons, List.length_nil]; exact canApp_grow hca
        · simp; omega
        · omega
        · rw [← hP1]; simp
        · exact hP2
        · rfl
      · have hz : Rdr.pends (n.toNat - i) r' = ([], r') := by
          by_cases he : r'.e = 0
          · rw [show n.toNat - i = 0 by omega]; rfl
          · exact pends_err he
        rw [hz] at hP1 hP2
        dsimp only at hP1 hP2
        rw [List.append_nil] at hP1
        subst hP1 hP2
        repeat' (first | (simp -dsimp only [↓reduceIte, go_sem, t0, t2, t3, t4, t5, c]) | (refine guardV_split (fun h => ?_) (fun h => ?_) <;> (try rw [h]) <;> (try simp at h) <;> (try (exfalso; omega))))
        all_goals
          refine int_c hR fun s hR => ?_
          simp -dsimp only [↓reduceIte, go_sem, t0, t2, t3]
          refine rtext_c hR fun s hR => ?_
          simp -dsimp only [↓reduceIte, go_sem, t0, t2, t3]
          refine rdig_c hR fun s hR => ?_
          have h2 := (hR.f (k2, _) (List.mem_cons_self ..)).2
          have c2 := cellAt_known h2
          have hkl2 := (List.getElem?_eq_some_iff.1 h2).1
          repeat' (simp -dsimp only [↓reduceIte, go_sem, t0, t2, t3, t4, t5, c2, h2, set_set, cellAt_setS, objs_setS, hkl2])
        all_goals
          have hR := hR.upd (o' := .cells (repV tk ⟨X.num, X.last, X.view, X.commit, P.1, P.2.int.1, P.2.int.2.text.1, P.2.int.2.text.2.dig.1, X.seen, X.seenTag⟩)) hle2 hlt2
          refine rtext_c hR fun s hR => ?_
          simp -dsimp only [↓reduceIte, go_sem, t0, t2, t3]
          refine rdig_c hR fun s hR => ?_
          have h2 := hR.f (k2, _) (List.mem_cons_self ..)
          have h1 := hR.f (k, .cells (repV .full rep0)) (by simp)
          dsimp only at h1 h2
          have c2 := cellAt_known h2.2
          have hkl2 := (List.getElem?_eq_some_iff.1 h2.2).1
          have hkl := (List.getElem?_eq_some_iff.1 h1.2).1
          have hkk : k2 ≠ k := fun e => hlt2 (k, .cells (repV .full rep0)) (by simp) e.symm
          repeat' (simp -dsimp only [↓reduceIte, go_sem, t0, t2, t3, t4, t5, c2, h2.2, h1.2, set_set, cellAt_setS, objs_setS, objs_setN, length_set, hkl2, hkl, hkk])
          have hR := hR.upd (o' := .cells (repV tk ⟨X.num, X.last, X.view, X.commit, P.1, P.2.int.1, P.2.int.2.text.1, P.2.int.2.text.2.dig.1, P.2.int.2.text.2.dig.2.text.1, P.2.int.2.text.2.dig.2.text.2.dig.1⟩)) hle2 hlt2
          exact hK _ _ tk ((hR.mono (G := F) (by simp +contextual)).setO hle h1.1 hlt)

theorem msgSet_9s {m : Msg} {t u v : Tk} {l : List Int} : (msgPs t u m).set 9 (.slice v (l.map (AV.int .i64))) = msgPs t v { m with nums := l } := rfl
theorem slV_eq {l : List Int} : slV (AV.int .i64) l = .slice (L01.tk' l) (l.map (AV.int .i64)) := rfl
attribute [local go_sem] msgSet_9s slV_eq
noncomputable def Rdr.fields (r : Rdr) (m : Msg) : Msg × Rdr :=
  if m.kind = 1 then ((⟨m.kind, m.client, ⟨r.int.1, r.int.2.int.1, r.int.2.int.2.int.1, r.int.2.int.2.int.2.text.1, r.int.2.int.2.int.2.text.2.dig.1, r.int.2.int.2.int.2.text.2.dig.2.dig.1⟩, m.rep, m.view, m.by_, m.tag, m.own, m.blob, m.nums⟩ : Msg), r.int.2.int.2.int.2.text.2.dig.2.dig.2)
  else if m.kind = 2 then ((⟨m.kind, m.client, m.sub, r.rep.1, m.view, m.by_, m.tag, m.own, m.blob, m.nums⟩ : Msg), r.rep.2)
  else if m.kind = 3 then ((⟨m.kind, m.client, m.sub, m.rep, r.text.1, m.by_, r.text.2.dig.1, m.own, m.blob, m.nums⟩ : Msg), r.text.2.dig.2)
  else if m.kind = 4 ∨ m.kind = 6 then ((⟨m.kind, m.client, m.sub, m.rep, m.view, m.by_, m.tag, m.own, ⟨r.int.1, r.int.2.int.1, r.int.2.int.2.text.1, r.int.2.int.2.text.2.dig.1⟩, m.nums⟩ : Msg), r.int.2.int.2.text.2.dig.2)
  else if m.kind = 5 ∨ m.kind = 7 ∨ m.kind = 8 then ((⟨m.kind, m.client, m.sub, m.rep, m.view, m.by_, m.tag, m.own, m.blob, r.ints.1⟩ : Msg), r.ints.2)
  else if m.kind = 10 then ((⟨m.kind, m.client, m.sub, m.rep, r.int.2.text.1, r.int.1, r.int.2.text.2.dig.1, r.int.2.text.2.dig.2.dig.1, m.blob, m.nums⟩ : Msg), r.int.2.text.2.dig.2.dig.2)
  else if m.kind = 11 then ((⟨m.kind, m.client, m.sub, m.rep, m.view, m.by_, m.tag, r.dig.1, m.blob, m.nums⟩ : Msg), r.dig.2)
  else (m, r)
theorem kinds_all (n : Int) : n = 1 ∨ n = 2 ∨ n = 3 ∨ n = 4 ∨ n = 6 ∨ n = 5 ∨ n = 7 ∨ n = 8 ∨ n = 10 ∨ n = 11 ∨ (¬ n = 1 ∧ ¬ n = 2 ∧ ¬ n = 3 ∧ ¬ n = 4 ∧ ¬ n = 6 ∧ ¬ n = 5 ∧ ¬ n = 7 ∧ ¬ n = 8 ∧ ¬ n = 10 ∧ ¬ n = 11) := by omega
theorem rfields_c {r : Rdr} {m : Msg} {t u : Tk} {T : List (Nat × Nat)} {j k : Nat} {F : List (Nat × AObj)} {σ0 σ : AST} {K : AV → AST → Prop} (hR : RF σ0 σ T j r ((k, .cells (msgV t u m)) :: F)) (hk : σ0.objs.length ≤ k) (hF : ∀ x ∈ F, x.1 ≠ k)
    (hK : ∀ s T' t' u', RF σ0 s T' j (r.fields m).2 ((k, .cells (msgV t' u' (r.fields m).1)) :: F) → K (.tuple []) s) : TCalls Tryz.prog 62 [.ptr (some (j, [])), .ptr (some (k, []))] σ K := by
  refine tcalls_walk Tryz.f62 _ [] Tryz.func62 rfl rfl rfl mixed (Nat.le_of_ble_eq_true rfl) rfl fun hlen => ?_
  have h0 := hR.f (k, _) (List.mem_cons_self ..)
  have c0 := cellAt_known h0.2
  simp -dsimp only [↓reduceIte, go_sem, c0]
  rcases kinds_all m.kind with hq | hq | hq | hq | hq | hq | hq | hq | hq | hq | hq
  · have e : r.fields m = ((⟨m.kind, m.client, ⟨r.int.1, r.int.2.int.1, r.int.2.int.2.int.1, r.int.2.int.2.int.2.text.1, r.int.2.int.2.int.2.text.2.dig.1, r.int.2.int.2.int.2.text.2.dig.2.dig.1⟩, m.rep, m.view, m.by_, m.tag, m.own, m.blob, m.nums⟩ : Msg), r.int.2.int.2.int.2.text.2.dig.2.dig.2) := by simp [Rdr.fields, hq]
    rw [e, hq] at hK
    simp -dsimp only [↓reduceIte, go_sem, hq]
    refine int_c hR fun s hR => ?_
    simp -dsimp only [↓reduceIte, go_sem, hq]
    refine int_c hR fun s hR => ?_
    simp -dsimp only [↓reduceIte, go_sem, hq]
    refine int_c hR fun s hR => ?_
    simp -dsimp only [↓reduceIte, go_sem, hq]
    refine rtext_c hR fun s hR => ?_
    simp -dsimp only [↓reduceIte, go_sem, hq]
    refine rdig_c hR fun s hR => ?_
    simp -dsimp only [↓reduceIte, go_sem, hq]
    refine rdig_c hR fun s hR => ?_
    have h2 := hR.f (k, _) (List.mem_cons_self ..)
    have c2 := cellAt_known h2.2
    have hkl := (List.getElem?_eq_some_iff.1 h2.2).1
    repeat' (simp -dsimp only [↓reduceIte, go_sem, hq, c2, h2.2, set_set, cellAt_setS, objs_setS, hkl])
    exact hK _ T t u (hR.upd hk hF)
  · have e : r.fields m = ((⟨m.kind, m.client, m.sub, r.rep.1, m.view, m.by_, m.tag, m.own, m.blob, m.nums⟩ : Msg), r.rep.2) := by simp [Rdr.fields, hq]
    rw [e, hq] at hK
    simp -dsimp only [↓reduceIte, go_sem, hq]
    refine rans_c hR fun s T' t' hR => ?_
    have h2 := hR.f (k, _) (List.mem_cons_self ..)
    have c2 := cellAt_known h2.2
    have hkl := (List.getElem?_eq_some_iff.1 h2.2).1
    repeat' (simp -dsimp only [↓reduceIte, go_sem, hq, c2, h2.2, set_set, cellAt_setS, objs_setS, hkl])
    exact hK _ T' t' u (hR.upd hk hF)
  · have e : r.fields m = ((⟨m.kind, m.client, m.sub, m.rep, r.text.1, m.by_, r.text.2.dig.1, m.own, m.blob, m.nums⟩ : Msg), r.text.2.dig.2) := by simp [Rdr.fields, hq]
    rw [e, hq] at hK
    simp -dsimp only [↓reduceIte, go_sem, hq]
    refine rtext_c hR fun s hR => ?_
    simp -dsimp only [↓reduceIte, go_sem, hq]
    refine rdig_c hR fun s hR => ?_
    have h2 := hR.f (k, _) (List.mem_cons_self ..)
    have c2 := cellAt_known h2.2
    have hkl := (List.getElem?_eq_some_iff.1 h2.2).1
    repeat' (simp -dsimp only [↓reduceIte, go_sem, hq, c2, h2.2, set_set, cellAt_setS, objs_setS, hkl])
    exact hK _ T t u (hR.upd hk hF)
  · have e : r.fields m = ((⟨m.kind, m.client, m.sub, m.rep, m.view, m.by_, m.tag, m.own, ⟨r.int.1, r.int.2.int.1, r.int.2.int.2.text.1, r.int.2.int.2.text.2.dig.1⟩, m.nums⟩ : Msg), r.int.2.int.2.text.2.dig.2) := by simp [Rdr.fields, hq]
    rw [e, hq] at hK
    simp -dsimp only [↓reduceIte, go_sem, hq]
    refine int_c hR fun s hR => ?_
    simp -dsimp only [↓reduceIte, go_sem, hq]
    refine int_c hR fun s hR => ?_
    simp -dsimp only [↓reduceIte, go_sem, hq]
    refine rtext_c hR fun s hR => ?_
    simp -dsimp only [↓reduceIte, go_sem, hq]
    refine rdig_c hR fun s hR => ?_
    have h2 := hR.f (k, _) (List.mem_cons_self ..)
    have c2 := cellAt_known h2.2
    have hkl := (List.getElem?_eq_some_iff.1 h2.2).1
    repeat' (simp -dsimp only [↓reduceIte, go_sem, hq, c2, h2.2, set_set, cellAt_setS, objs_setS, hkl])
    exact hK _ T t u (hR.upd hk hF)
  · have e : r.fields m = ((⟨m.kind, m.client, m.sub, m.rep, m.view, m.by_, m.tag, m.own, ⟨r.int.1, r.int.2.int.1, r.int.2.int.2.text.1, r.int.2.int.2.text.2.dig.1⟩, m.nums⟩ : Msg), r.int.2.int.2.text.2.dig.2) := by simp [Rdr.fields, hq]
    rw [e, hq] at hK
    simp -dsimp only [↓reduceIte, go_sem, hq]
    refine int_c hR fun s hR => ?_
    simp -dsimp only [↓reduceIte, go_sem, hq]
    refine int_c hR fun s hR => ?_
    simp -dsimp only [↓reduceIte, go_sem, hq]
    refine rtext_c hR fun s hR => ?_
    simp -dsimp only [↓reduceIte, go_sem, hq]
    refine rdig_c hR fun s hR => ?_
    have h2 := hR.f (k, _) (List.mem_cons_self ..)
    have c2 := cellAt_known h2.2
    have hkl := (List.getElem?_eq_some_iff.1 h2.2).1
    repeat' (simp -dsimp only [↓reduceIte, go_sem, hq, c2, h2.2, set_set, cellAt_setS, objs_setS, hkl])
    exact hK _ T t u (hR.upd hk hF)
  · have e : r.fields m = ((⟨m.kind, m.client, m.sub, m.rep, m.view, m.by_, m.tag, m.own, m.blob, r.ints.1⟩ : Msg), r.ints.2) := by simp [Rdr.fields, hq]
    rw [e, hq] at hK
    simp -dsimp only [↓reduceIte, go_sem, hq]
    refine withInts_c hR fun s hR => ?_
    have h2 := hR.f (k, _) (List.mem_cons_self ..)
    have c2 := cellAt_known h2.2
    have hkl := (List.getElem?_eq_some_iff.1 h2.2).1
    repeat' (simp -dsimp only [↓reduceIte, go_sem, hq, c2, h2.2, set_set, cellAt_setS, objs_setS, hkl])
    exact hK _ T t (L01.tk' r.ints.1) (hR.upd hk hF)
  · have e : r.fields m = ((⟨m.kind, m.client, m.sub, m.rep, m.view, m.by_, m.tag, m.own, m.blob, r.ints.1⟩ : Msg), r.ints.2) := by simp [Rdr.fields, hq]
    rw [e, hq] at hK
    simp -dsimp only [↓reduceIte, go_sem, hq]
    refine withInts_c hR fun s hR => ?_
    have h2 := hR.f (k, _) (List.mem_cons_self ..)
    have c2 := cellAt_known h2.2
    have hkl := (List.getElem?_eq_some_iff.1 h2.2).1
    repeat' (simp -dsimp only [↓reduceIte, go_sem, hq, c2, h2.2, set_set, cellAt_setS, objs_setS, hkl])
    exact hK _ T t (L01.tk' r.ints.1) (hR.upd hk hF)
  · have e : r.fields m = ((⟨m.kind, m.client, m.sub, m.rep, m.view, m.by_, m.tag, m.own, m.blob, r.ints.1⟩ : Msg), r.ints.2) := by simp [Rdr.fields, hq]
    rw [e, hq] at hK
    simp -dsimp only [↓reduceIte, go_sem, hq]
    refine withInts_c hR fun s hR => ?_
    have h2 := hR.f (k, _) (List.mem_cons_self ..)
    have c2 := cellAt_known h2.2
    have hkl := (List.getElem?_eq_some_iff.1 h2.2).1
    repeat' (simp -dsimp only [↓reduceIte, go_sem, hq, c2, h2.2, set_set, cellAt_setS, objs_setS, hkl])
    exact hK _ T t (L01.tk' r.ints.1) (hR.upd hk hF)
  · have e : r.fields m = ((⟨m.kind, m.client, m.sub, m.rep, r.int.2.text.1, r.int.1, r.int.2.text.2.dig.1, r.int.2.text.2.dig.2.dig.1, m.blob, m.nums⟩ : Msg), r.int.2.text.2.dig.2.dig.2) := by simp [Rdr.fields, hq]
    rw [e, hq] at hK
    simp -dsimp only [↓reduceIte, go_sem, hq]
    refine int_c hR fun s hR => ?_
    simp -dsimp only [↓reduceIte, go_sem, hq]
    refine rtext_c hR fun s hR => ?_
    have h2 := hR.f (k, _) (List.mem_cons_self ..)
    have c2 := cellAt_known h2.2
    have hkl := (List.getElem?_eq_some_iff.1 h2.2).1
    repeat' (simp -dsimp only [↓reduceIte, go_sem, hq, c2, h2.2, set_set, cellAt_setS, objs_setS, hkl])
    have hR := hR.upd (o' := .cells (msgV t u ⟨10, m.client, m.sub, m.rep, r.int.2.text.1, r.int.1, m.tag, m.own, m.blob, m.nums⟩)) hk hF
    refine rdig_c hR fun s hR => ?_
    simp -dsimp only [↓reduceIte, go_sem, hq]
    refine rdig_c hR fun s hR => ?_
    have h2 := hR.f (k, _) (List.mem_cons_self ..)
    have c2 := cellAt_known h2.2
    have hkl := (List.getElem?_eq_some_iff.1 h2.2).1
    repeat' (simp -dsimp only [↓reduceIte, go_sem, hq, c2, h2.2, set_set, cellAt_setS, objs_setS, hkl])
    exact hK _ T t u (hR.upd hk hF)
  · have e : r.fields m = ((⟨m.kind, m.client, m.sub, m.rep, m.view, m.by_, m.tag, r.dig.1, m.blob, m.nums⟩ : Msg), r.dig.2) := by simp [Rdr.fields, hq]
    rw [e, hq] at hK
    simp -dsimp only [↓reduceIte, go_sem, hq]
    refine rdig_c hR fun s hR => ?_
    have h2 := hR.f (k, _) (List.mem_cons_self ..)
    have c2 := cellAt_known h2.2
    have hkl := (List.getElem?_eq_some_iff.1 h2.2).1
    repeat' (simp -dsimp only [↓reduceIte, go_sem, hq, c2, h2.2, set_set, cellAt_setS, objs_setS, hkl])
    exact hK _ T t u (hR.upd hk hF)
  · have e : r.fields m = (m, r) := by simp [Rdr.fields, hq]
    rw [e] at hK
    repeat' (first | (simp -dsimp only [↓reduceIte, go_sem, hq, c0]) | (refine guardV_split (fun h => ?_) (fun h => ?_) <;> (try rw [h]) <;> (try simp at h) <;> (try (exfalso; omega))))
    exact hK _ T t u hR
attribute [local go_sem] msgSet_0 msgPs_1 msgAt_1 msgSet_1 sizes_msg shapes_msg fits_msg zero_msg zt_msg built_msg
attribute [local go_sem] rdrPs_0 rdrAt_0 rdrSet_0 rdrPs_1 rdrAt_1 zero_rdr zt_rdr built_rdr
attribute [local go_sem] msgSet_9s slV_eq
noncomputable section
def getA (s : List UInt8) : Int × Rdr := let a := (Rdr.mk s 0 0).int; (a.1, if a.2.e = 0 ∧ ¬ In 1 11 a.1 then { a.2 with e := 6 } else a.2)
def getB (x : Int × Rdr) : Int × Rdr := if x.1 = 2 ∨ x.1 = 4 ∨ x.1 = 6 then (0, x.2) else x.2.int
def getM (n c : Int) : Msg := ⟨n, c, sub0, rep0, [], 0, dig0, dig0, blob0, []⟩
def getC (s : List UInt8) : Msg × Rdr := (getB (getA s)).2.fields (getM (getA s).1 (getB (getA s)).1)
def getR (s : List UInt8) : Msg × Int :=
  if (getC s).2.e ≠ 0 then (msg0, (getC s).2.e) else if (getC s).2.at_ < s.length ∨ ¬ (getC s).1.Ok then (msg0, 6) else ((getC s).1, 0)
end
theorem get_c {l : List UInt8} {σ : AST} {K : AV → AST → Prop} (hK : ∀ t u, K (.tuple [msgV t u (getR l).1, .int .i64 (getR l).2]) σ) : TCalls Tryz.prog 25 [.str l] σ K := by
  refine TCalls.drop ?_
  refine tcalls_walk Tryz.f25 _ [.cell 2 42, .tmp 3] Tryz.func25 rfl rfl rfl mixed (Nat.le_of_ble_eq_true rfl) rfl fun hlen => ?_
  have hll : l.length ≤ 9223372036854775807 := hlen (.str l) (by simp)
  simp -dsimp only [↓reduceIte, go_sem]
  generalize hk0 : σ.objs.length = k0
  have hR : RF σ (σ.app [.cells (msgV .full .full msg0), .cells (rdrV ⟨l, 0, 0⟩)]) σ.toks (k0 + 1) ⟨l, 0, 0⟩ [(k0, .cells (msgV .full .full msg0))] := by
    refine ⟨Ext.app _ _, rfl, by omega, ?_, ?_, fun _ => ⟨by simp, by simp⟩, hll⟩
    · subst hk0; simp [AST.app]
    · subst hk0; simp [AST.app]
  generalize hj : k0 + 1 = j at hR
  refine int_c hR fun s hR => ?_
  repeat' (simp -dsimp only [↓reduceIte, go_sem, hj])
  have hR := hR.push (o := .cells (msgV .full .full ⟨(Rdr.mk l 0 0).int.1, msg0.client, msg0.sub, msg0.rep, msg0.view, msg0.by_, msg0.tag, msg0.own, msg0.blob, msg0.nums⟩))
  have hA1 : (getA l).1 = (Rdr.mk l 0 0).int.1 := rfl
  have hA2 : (getA l).2 = if (Rdr.mk l 0 0).int.2.e = 0 ∧ ¬ In 1 11 (Rdr.mk l 0 0).int.1 then { (Rdr.mk l 0 0).int.2 with e := 6 } else (Rdr.mk l 0 0).int.2 := rfl
  generalize (Rdr.mk l 0 0).int = A at *
  have hle1 := hR.le
  have hF := hR.lt
  have hF1 : ∀ x ∈ [(k0, AObj.cells (msgV .full .full msg0))], x.1 ≠ s.objs.length := by
    intro x hx
    have := (List.getElem?_eq_some_iff.1 (hR.f x (List.mem_cons_of_mem _ hx)).2).1
    have h3 := ‹RF σ s σ.toks j A.2 [(k0, AObj.cells (msgV .full .full msg0))]›.lt x hx
    exact h3
  have hle1 : σ.objs.length ≤ s.objs.length := ‹RF σ s σ.toks j A.2 [(k0, AObj.cells (msgV .full .full msg0))]›.le
  generalize hk1 : s.objs.length = k1 at hR hF1 hle1
  clear hF
  have c := cellAt_known hR.o
  have ho := hR.o
  have h2 := hR.f (k1, _) (List.mem_cons_self ..)
  have c2 := cellAt_known h2.2
  have nj := h2.1.symm
  dsimp only at nj
  repeat' (first | (simp -dsimp only [↓reduceIte, go_sem, hk1, c, ho, c2, cellAt_setN, nj]) | (refine guardV_split (fun h => ?_) (fun h => ?_) <;> (try rw [h]) <;> (try simp at h) <;> (try (exfalso; omega))) | (refine within_c ?_))
  all_goals
    obtain ⟨r1, h1, hR⟩ : ∃ r1, r1 = (getA l).2 ∧ RF σ _ σ.toks j r1 [(k1, .cells (msgV .full .full (getM A.1 0))), (k0, .cells (msgV .full .full msg0))] := by
      refine ⟨_, hA2.symm, ?_⟩
      first
        | (rw [if_pos ⟨‹_›, ‹_›⟩]; exact hR.err (by decide))
        | (rw [if_neg (fun h => by simp_all)]; exact hR)
  all_goals
    clear c ho h2 c2
    first
      | refine rfields_c hR hle1 hF1 fun s T' t u hR => ?_
      | (refine int_c hR fun s hR => ?_
         have h2 := hR.f (k1, _) (List.mem_cons_self ..)
         have c2 := cellAt_known h2.2
         have hkl := (List.getElem?_eq_some_iff.1 h2.2).1
         repeat' (simp -dsimp only [↓reduceIte, go_sem, c2, h2.2, cellAt_setS, objs_setS, hkl, hj])
         have hR := hR.upd (o' := .cells (msgV .full .full (getM A.1 r1.int.1))) hle1 hF1
         refine rfields_c hR hle1 hF1 fun s T' t u hR => ?_)
  all_goals
    obtain ⟨m3, r3, e3, hR⟩ : ∃ m3 r3, getC l = (m3, r3) ∧ RF σ s T' j r3 [(k1, .cells (msgV t u m3)), (k0, .cells (msgV .full .full msg0))] := ⟨_, _, by simp only [getC, getB, hA1, ← h1]; simp [*], hR⟩
    have c := cellAt_known hR.o
    have h2 := hR.f (k1, .cells (msgV t u m3)) (by simp)
    have h0 := hR.f (k0, .cells (msgV .full .full msg0)) (by simp)
    dsimp only at h2 h0
    have c2 := cellAt_known h2.2
    have hkl := (List.getElem?_eq_some_iff.1 h0.2).1
    have n0 := h0.1.symm
    have n1 : k0 ≠ k1 := hF1 (k0, .cells (msgV .full .full msg0)) (by simp)
    have fin : ∀ (v : AV) t u, v = .tuple [msgV t u (getR l).1, .int .i64 (getR l).2] → Ext σ (s.set k0 (.cells (msgV t u (getR l).1))) ∧ v.noRef = true ∧ K v.strip σ := fun v t u hv => by
      subst hv
      refine ⟨hR.x.set (by omega), ?_, ?_⟩
      · simp [AV.noRef, AV.noRefs, msgPs, repPs, subPs, blobPs, noRefs_pends, noRefs_ints]
      · simp only [AV.strip, AV.strips, msg_strips]; exact hK _ _
    clear hK
    by_cases he : r3.e = 0
    · by_cases hat : r3.at_ < l.length
      · have e4 : getR l = (msg0, 6) := by simp only [getR, e3]; simp [he, hat]
        rw [e4] at fin
        repeat' (first | (simp -dsimp only [↓reduceIte, go_sem, hk1, hj, c, c2, h0.2, h2.2, he, hat, cellAt_setS, cellAt_setN, objs_setS, objs_setN, hkl, n0, n1]) | (refine arr_intro fun _ => ?_))
        exact fin _ .full .full rfl
      · by_cases hm : m3.Ok
        · have e4 : getR l = (m3, 0) := by simp only [getR, e3]; simp [he, hat, hm]
          rw [e4] at fin
          repeat' (first | (simp -dsimp only [↓reduceIte, go_sem, hk1, hj, c, c2, h0.2, h2.2, he, hat, hm, cellAt_setS, cellAt_setN, objs_setS, objs_setN, hkl, n0, n1]) | (refine arr_intro fun _ => ?_) | (refine right_c ?_))
          exact fin _ t u rfl
        · have e4 : getR l = (msg0, 6) := by simp only [getR, e3]; simp [he, hat, hm]
          rw [e4] at fin
          repeat' (first | (simp -dsimp only [↓reduceIte, go_sem, hk1, hj, c, c2, h0.2, h2.2, he, hat, hm, cellAt_setS, cellAt_setN, objs_setS, objs_setN, hkl, n0, n1]) | (refine arr_intro fun _ => ?_) | (refine right_c ?_))
          exact fin _ .full .full rfl
    · have e4 : getR l = (msg0, r3.e) := by simp only [getR, e3]; simp [he]
      rw [e4] at fin
      repeat' (first | (simp -dsimp only [↓reduceIte, go_sem, hk1, hj, c, c2, h0.2, h2.2, he, cellAt_setS, cellAt_setN, objs_setS, objs_setN, hkl, n0, n1]) | (refine guardV_split (fun h => ?_) (fun h => ?_) <;> (try rw [h]) <;> (try simp at h) <;> (try (exfalso; omega))) | (with_reducible refine awp_drawT (id := 9) (.op 0 2 (.op 1 0 (.op 2 0 (.op 3 0 (.op 4 0 (.op 5 1 (.op 6 2 .nil))))))) (by kernel_rfl) ?_))
      refine ⟨?_, fin _ .full .full rfl⟩
      simp [keeps_cons, keeps_none, objs_setN h0.1]
end Go.Aff.L10

