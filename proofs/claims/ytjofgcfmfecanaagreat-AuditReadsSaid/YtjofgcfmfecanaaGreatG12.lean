import Derived.Test.YtjofgcfmfecanaaGreatG11
import Derived.Test.YtjofgcfmfecanaaGreatG7

set_option linter.unusedSimpArgs false
set_option linter.unusedVariables false

/- Layer 10, walked: Put. -/
namespace Go.Aff.L10
open Go.Proofs Go.Aff Go.Aff.L01 Classical
set_option linter.unusedVariables false
set_option linter.unusedSimpArgs false
set_option maxRecDepth 20000
attribute [local go_sem] push_app app_app length_app cellAt_app cellAt_app0 set_app set_app0 objs_app objs_app0 List.cons_append List.nil_append List.length_cons List.length_nil List.getElem?_cons_zero List.getElem?_cons_succ List.set_cons_zero List.set_cons_succ List.length_map
attribute [-go_sem] cellAt_new
attribute [-simp] List.length_flatMap
attribute [local go_sem] Tryz.underlying3 Tryz.underlying4 Tryz.underlying5 Tryz.underlying9 Tryz.underlying39 Tryz.underlying40 Tryz.underlying43 Tryz.underlying25 Tryz.underlying50 Tryz.underlying76 subPs_0 subAt_0 subSet_0 subPs_1 subAt_1 subSet_1 subPs_2 subAt_2 subSet_2 subPs_3 subAt_3 subSet_3 subPs_4 subAt_4 subSet_4 subPs_5 subAt_5 subSet_5 sizes_sub shapes_sub fits_sub zero_sub zt_sub built_sub Tryz.underlying42 pendPs_0 pendAt_0 pendSet_0 pendPs_1 pendAt_1 pendSet_1 pendPs_2 pendAt_2 pendSet_2 pendPs_3 pendAt_3 pendSet_3 pendPs_4 pendAt_4 pendSet_4 pendPs_5 pendAt_5 pendSet_5 sizes_pend shapes_pend fits_pend zero_pend zt_pend built_pend Tryz.underlying104 repPs_0 repAt_0 repSet_0 repPs_1 repAt_1 repSet_1 repPs_2 repAt_2 repSet_2 repPs_3 repAt_3 repSet_3 repPs_4 repAt_4 repSet_4 repPs_5 repAt_5 repSet_5 repPs_6 repAt_6 repSet_6 repPs_7 repAt_7 repSet_7 repPs_8 repAt_8 repSet_8 repPs_9 repAt_9 repSet_9 sizes_rep shapes_rep fits_rep zero_rep zt_rep built_rep Tryz.underlying45 blobPs_0 blobAt_0 blobSet_0 blobPs_1 blobAt_1 blobSet_1 blobPs_2 blobAt_2 blobSet_2 blobPs_3 blobAt_3 blobSet_3 sizes_blob shapes_blob fits_blob zero_blob zt_blob built_blob Tryz.underlying47 msgPs_0 msgAt_0 msgSet_0 msgPs_1 msgAt_1 msgSet_1 msgPs_2 msgAt_2 msgSet_2 msgPs_3 msgAt_3 msgSet_3 msgPs_4 msgAt_4 msgSet_4 msgPs_5 msgAt_5 msgSet_5 msgPs_6 msgAt_6 msgSet_6 msgPs_7 msgAt_7 msgSet_7 msgPs_8 msgAt_8 msgSet_8 msgPs_9 msgAt_9 msgSet_9 sizes_msg shapes_msg fits_msg zero_msg zt_msg built_msg Tryz.underlying49 at_Ps_0 at_At_0 at_Set_0 at_Ps_1 at_At_1 at_Set_1 sizes_at_ shapes_at_ fits_at_ zero_at_ zt_at_ built_at_ Tryz.underlying62
attribute [local go_sem] fits3 fits4 fits5 fits9 fits23 fits26 fits31 fits34 fits52 zt3 zero3 zt34 zero34 zt23 zero23 bin_sub_eql bin_pend_eql bin_pend_neq bin_blob_eql bin_dig23_eql bin_dig23_neq slice23
attribute [local go_sem ↓] blockQ_exit2
attribute [local simp] dig_ext
attribute [local go_sem] wAt zero54 zt54 built54 fits54 Tryz.underlying78 Tryz.underlying75 Tryz.underlying121

def subB (x : Sub) : List UInt8 := [x.num, x.kind, x.target].flatMap numS ++ textS x.value ++ [x.asked, x.data].flatMap digS
def blobB (x : Blob) : List UInt8 := [x.owner, x.num].flatMap numS ++ textS x.cipher ++ [x.tag].flatMap digS
def Msg.rest (m : Msg) : List UInt8 :=
  if m.kind = 1 then subB m.sub
  else if m.kind = 2 then ansB m.rep
  else if m.kind = 3 then textS m.view ++ [m.tag].flatMap digS
  else if m.kind = 4 ∨ m.kind = 6 then blobB m.blob
  else if m.kind = 5 ∨ m.kind = 7 ∨ m.kind = 8 then laidAll numS m.nums
  else if m.kind = 10 then [m.by_].flatMap numS ++ textS m.view ++ [m.tag, m.own].flatMap digS
  else if m.kind = 11 then [m.own].flatMap digS else []
def Msg.bytes (m : Msg) : List UInt8 := [m.kind].flatMap numS ++ (if m.kind = 2 ∨ m.kind = 4 ∨ m.kind = 6 then [] else [m.client].flatMap numS) ++ m.rest

theorem Msg.Ok.kinds {m : Msg} (h : m.Ok) : (m.kind = 1 ∧ m.sub.Ok) ∨ (m.kind = 2 ∧ m.rep.Ok) ∨ (m.kind = 3 ∧ m.view ≠ [] ∧ ViewOk 8 m.view) ∨ (m.kind = 4 ∧ m.blob.Ok) ∨ (m.kind = 5 ∧ NumsOk m.nums) ∨ (m.kind = 6 ∧ m.blob.Ok) ∨ (m.kind = 7 ∧ NumsOk m.nums) ∨ (m.kind = 8 ∧ NumsOk m.nums) ∨ m.kind = 9 ∨ (m.kind = 10 ∧ In 0 7 m.by_ ∧ m.view ≠ [] ∧ ViewOk 8 m.view) ∨ m.kind = 11 := by
  have h := h.1
  unfold Msg.FieldsOk at h
  split at h
  · simp_all
  split at h
  · simp_all
  split at h
  · simp_all
  split at h
  · rename_i hk; rcases hk with hk | hk <;> simp_all
  split at h
  · rename_i hk; rcases hk with hk | hk | hk <;> simp_all
  split at h
  · simp_all
  rcases h with h | h <;> simp_all
theorem NumsOk.in_ {l : List Int} (h : NumsOk l) : InI l := fun n hn => by
  obtain ⟨i, hi, rfl⟩ := List.getElem_of_mem hn
  have := (h.1 i _ (List.getElem?_eq_getElem hi)).1
  simp only [In] at this
  omega

theorem put_c {m : Msg} {t u : Tk} {σ : AST} {K : AV → AST → Prop} (hK : K (if m.Ok then .tuple [.str m.bytes, .int .i64 0] else .tuple [.str [], .int .i64 2]) σ) : TCalls Tryz.prog 15 [msgV t u m] σ K := by
  refine TCalls.drop ?_
  refine tcalls_walk Tryz.f15 _ [.tmp 2, .tmp 3] Tryz.func15 rfl rfl rfl mixed (Nat.le_of_ble_eq_true rfl) rfl fun hlen => ?_
  simp -dsimp only [↓reduceIte, go_sem]
  refine right_c ?_
  by_cases hok : m.Ok
  · rw [if_pos hok] at hK
    have hkinds := hok.kinds
    obtain ⟨hf, hc, ho⟩ := hok
    have hok : m.Ok := ⟨hf, hc, ho⟩
    simp only [In] at hc
    repeat' (first | (simp -dsimp only [↓reduceIte, go_sem, hok]) | (refine arr_intro fun _ => ?_) | (rw [wrap_i64 (by omega) (by omega)]) | (refine guardV_split (fun h => ?_) (fun h => ?_) <;> (try rw [h]) <;> (try simp at h) <;> (try (exfalso; omega))) | (refine bI1 ?_))
    have h : WF σ (σ.app [.cells (msgV t u m), .cells (.agg [.slice .full []])]) (σ.objs.length + 1) [] [(σ.objs.length, .cells (msgV t u m))] := by
      refine ⟨Ext.app _ _, by omega, ⟨.full, .inl rfl, trivial, ?_⟩, ?_⟩
      · simp [AST.app, u8s]
      · simp [AST.app]
    generalize hk : σ.objs.length = k at h
    generalize hj : k + 1 = j at h
    have hk1 : 1 ≤ m.kind ∧ m.kind ≤ 11 := by omega
    refine wInts_c 1 (l := [m.kind]) (by (intro n hn; simp at hn; omega)) (by simp) (by omega) (by simp) h fun s h b => ?_
    have c := h.cell (k := k) (List.mem_cons_self ..)
    simp only [List.nil_append] at h b
    have b0 : ([m.kind].flatMap numS).length ≤ 22 := by simpa using b
    rcases hkinds with ⟨hq, hs⟩ | ⟨hq, hs⟩ | ⟨hq, hs⟩ | ⟨hq, hs⟩ | ⟨hq, hs⟩ | ⟨hq, hs⟩ | ⟨hq, hs⟩ | ⟨hq, hs⟩ | hq | ⟨hq, hs⟩ | hq
    · obtain ⟨o1, o2, o3, o4⟩ := hs
      simp only [In] at o1 o2 o3
      repeat' (first | (simp -dsimp only [↓reduceIte, go_sem, c, hq, hj, hk]) | (refine arr_intro fun _ => ?_) | (rw [wrap_i64 (by omega) (by omega)]) | (refine guardV_split (fun h => ?_) (fun h => ?_) <;> (try rw [h]) <;> (try simp at h) <;> (try (exfalso; omega))) | (refine bI1 ?_) | (refine bI2 ?_) | (refine bI3 ?_) | (refine bI4 ?_) | (refine bD1 ?_) | (refine bD2 ?_))
      refine wInts_c 1 (l := [m.client]) (by (intro n hn; simp at hn; omega)) (by simp) (by omega) (by omega) h fun s h b => ?_
      have c := h.cell (k := k) (List.mem_cons_self ..)
      repeat' (first | (simp -dsimp only [↓reduceIte, go_sem, c, hq, hj, hk]) | (refine arr_intro fun _ => ?_) | (rw [wrap_i64 (by omega) (by omega)]) | (refine guardV_split (fun h => ?_) (fun h => ?_) <;> (try rw [h]) <;> (try simp at h) <;> (try (exfalso; omega))) | (refine bI1 ?_) | (refine bI2 ?_) | (refine bI3 ?_) | (refine bI4 ?_) | (refine bD1 ?_) | (refine bD2 ?_))
      refine wInts_c 3 (l := [m.sub.num, m.sub.kind, m.sub.target]) (by (intro n hn; simp at hn; omega)) (by simp) (by omega) (by omega) h fun s h b => ?_
      have c := h.cell (k := k) (List.mem_cons_self ..)
      repeat' (first | (simp -dsimp only [↓reduceIte, go_sem, c, hq, hj, hk]) | (refine arr_intro fun _ => ?_) | (rw [wrap_i64 (by omega) (by omega)]) | (refine guardV_split (fun h => ?_) (fun h => ?_) <;> (try rw [h]) <;> (try simp at h) <;> (try (exfalso; omega))) | (refine bI1 ?_) | (refine bI2 ?_) | (refine bI3 ?_) | (refine bI4 ?_) | (refine bD1 ?_) | (refine bD2 ?_))
      refine wText_c 256 (by omega) (by omega) (by omega) h fun s h b => ?_
      have c := h.cell (k := k) (List.mem_cons_self ..)
      repeat' (first | (simp -dsimp only [↓reduceIte, go_sem, c, hq, hj, hk]) | (refine arr_intro fun _ => ?_) | (rw [wrap_i64 (by omega) (by omega)]) | (refine guardV_split (fun h => ?_) (fun h => ?_) <;> (try rw [h]) <;> (try simp at h) <;> (try (exfalso; omega))) | (refine bI1 ?_) | (refine bI2 ?_) | (refine bI3 ?_) | (refine bI4 ?_) | (refine bD1 ?_) | (refine bD2 ?_))
      refine wDigs_c 2 (l := [m.sub.asked, m.sub.data]) (by simp) (by omega) (by omega) h fun s h b => ?_
      have c := h.cell (k := k) (List.mem_cons_self ..)
      repeat' (first | (simp -dsimp only [↓reduceIte, go_sem, c, hq, hj, hk]) | (refine arr_intro fun _ => ?_) | (rw [wrap_i64 (by omega) (by omega)]) | (refine guardV_split (fun h => ?_) (fun h => ?_) <;> (try rw [h]) <;> (try simp at h) <;> (try (exfalso; omega))) | (refine bI1 ?_) | (refine bI2 ?_) | (refine bI3 ?_) | (refine bI4 ?_) | (refine bD1 ?_) | (refine bD2 ?_))
      obtain ⟨tb, w1, w2, w3⟩ := h.w
      have c := cellAt_known w3
      repeat' (first | (simp -dsimp only [↓reduceIte, go_sem, c, hq, hj]) | (refine arr_intro fun _ => ?_) | (rw [wrap_i64 (by omega) (by omega)]) | (refine guardV_split (fun h => ?_) (fun h => ?_) <;> (try rw [h]) <;> (try simp at h) <;> (try (exfalso; omega))))
      refine ⟨h.x, rfl, ?_⟩
      simpa [AV.strip, AV.strips, Msg.bytes, Msg.rest, hq, subB, blobB] using hK
    · repeat' (first | (simp -dsimp only [↓reduceIte, go_sem, c, hq, hj, hk]) | (refine arr_intro fun _ => ?_) | (rw [wrap_i64 (by omega) (by omega)]) | (refine guardV_split (fun h => ?_) (fun h => ?_) <;> (try rw [h]) <;> (try simp at h) <;> (try (exfalso; omega))) | (refine bI1 ?_))
      refine wAns_c hs (by omega) h fun s h b => ?_
      obtain ⟨tb, w1, w2, w3⟩ := h.w
      have c := cellAt_known w3
      repeat' (first | (simp -dsimp only [↓reduceIte, go_sem, c, hq, hj]) | (refine arr_intro fun _ => ?_) | (rw [wrap_i64 (by omega) (by omega)]) | (refine guardV_split (fun h => ?_) (fun h => ?_) <;> (try rw [h]) <;> (try simp at h) <;> (try (exfalso; omega))))
      refine ⟨h.x, rfl, ?_⟩
      simpa [AV.strip, AV.strips, Msg.bytes, Msg.rest, hq, subB, blobB] using hK
    · obtain ⟨_, o1, o2, _⟩ := hs
      repeat' (first | (simp -dsimp only [↓reduceIte, go_sem, c, hq, hj, hk]) | (refine arr_intro fun _ => ?_) | (rw [wrap_i64 (by omega) (by omega)]) | (refine guardV_split (fun h => ?_) (fun h => ?_) <;> (try rw [h]) <;> (try simp at h) <;> (try (exfalso; omega))) | (refine bI1 ?_) | (refine bI2 ?_) | (refine bI3 ?_) | (refine bI4 ?_) | (refine bD1 ?_) | (refine bD2 ?_))
      refine wInts_c 1 (l := [m.client]) (by (intro n hn; simp at hn; omega)) (by simp) (by omega) (by omega) h fun s h b => ?_
      have c := h.cell (k := k) (List.mem_cons_self ..)
      repeat' (first | (simp -dsimp only [↓reduceIte, go_sem, c, hq, hj, hk]) | (refine arr_intro fun _ => ?_) | (rw [wrap_i64 (by omega) (by omega)]) | (refine guardV_split (fun h => ?_) (fun h => ?_) <;> (try rw [h]) <;> (try simp at h) <;> (try (exfalso; omega))) | (refine bI1 ?_) | (refine bI2 ?_) | (refine bI3 ?_) | (refine bI4 ?_) | (refine bD1 ?_) | (refine bD2 ?_))
      refine wText_c 512 (by omega) (by omega) (by omega) h fun s h b => ?_
      have c := h.cell (k := k) (List.mem_cons_self ..)
      repeat' (first | (simp -dsimp only [↓reduceIte, go_sem, c, hq, hj, hk]) | (refine arr_intro fun _ => ?_) | (rw [wrap_i64 (by omega) (by omega)]) | (refine guardV_split (fun h => ?_) (fun h => ?_) <;> (try rw [h]) <;> (try simp at h) <;> (try (exfalso; omega))) | (refine bI1 ?_) | (refine bI2 ?_) | (refine bI3 ?_) | (refine bI4 ?_) | (refine bD1 ?_) | (refine bD2 ?_))
      refine wDigs_c 1 (l := [m.tag]) (by simp) (by omega) (by omega) h fun s h b => ?_
      have c := h.cell (k := k) (List.mem_cons_self ..)
      repeat' (first | (simp -dsimp only [↓reduceIte, go_sem, c, hq, hj, hk]) | (refine arr_intro fun _ => ?_) | (rw [wrap_i64 (by omega) (by omega)]) | (refine guardV_split (fun h => ?_) (fun h => ?_) <;> (try rw [h]) <;> (try simp at h) <;> (try (exfalso; omega))) | (refine bI1 ?_) | (refine bI2 ?_) | (refine bI3 ?_) | (refine bI4 ?_) | (refine bD1 ?_) | (refine bD2 ?_))
      obtain ⟨tb, w1, w2, w3⟩ := h.w
      have c := cellAt_known w3
      repeat' (first | (simp -dsimp only [↓reduceIte, go_sem, c, hq, hj]) | (refine arr_intro fun _ => ?_) | (rw [wrap_i64 (by omega) (by omega)]) | (refine guardV_split (fun h => ?_) (fun h => ?_) <;> (try rw [h]) <;> (try simp at h) <;> (try (exfalso; omega))))
      refine ⟨h.x, rfl, ?_⟩
      simpa [AV.strip, AV.strips, Msg.bytes, Msg.rest, hq, subB, blobB] using hK
    · obtain ⟨o1, o2, o3⟩ := hs
      simp only [In] at o1 o2
      repeat' (first | (simp -dsimp only [↓reduceIte, go_sem, c, hq, hj, hk]) | (refine arr_intro fun _ => ?_) | (rw [wrap_i64 (by omega) (by omega)]) | (refine guardV_split (fun h => ?_) (fun h => ?_) <;> (try rw [h]) <;> (try simp at h) <;> (try (exfalso; omega))) | (refine bI1 ?_) | (refine bI2 ?_) | (refine bI3 ?_) | (refine bI4 ?_) | (refine bD1 ?_) | (refine bD2 ?_))
      refine wInts_c 2 (l := [m.blob.owner, m.blob.num]) (by (intro n hn; simp at hn; omega)) (by simp) (by omega) (by omega) h fun s h b => ?_
      have c := h.cell (k := k) (List.mem_cons_self ..)
      repeat' (first | (simp -dsimp only [↓reduceIte, go_sem, c, hq, hj, hk]) | (refine arr_intro fun _ => ?_) | (rw [wrap_i64 (by omega) (by omega)]) | (refine guardV_split (fun h => ?_) (fun h => ?_) <;> (try rw [h]) <;> (try simp at h) <;> (try (exfalso; omega))) | (refine bI1 ?_) | (refine bI2 ?_) | (refine bI3 ?_) | (refine bI4 ?_) | (refine bD1 ?_) | (refine bD2 ?_))
      refine wText_c 4096 (by omega) (by omega) (by omega) h fun s h b => ?_
      have c := h.cell (k := k) (List.mem_cons_self ..)
      repeat' (first | (simp -dsimp only [↓reduceIte, go_sem, c, hq, hj, hk]) | (refine arr_intro fun _ => ?_) | (rw [wrap_i64 (by omega) (by omega)]) | (refine guardV_split (fun h => ?_) (fun h => ?_) <;> (try rw [h]) <;> (try simp at h) <;> (try (exfalso; omega))) | (refine bI1 ?_) | (refine bI2 ?_) | (refine bI3 ?_) | (refine bI4 ?_) | (refine bD1 ?_) | (refine bD2 ?_))
      refine wDigs_c 1 (l := [m.blob.tag]) (by simp) (by omega) (by omega) h fun s h b => ?_
      have c := h.cell (k := k) (List.mem_cons_self ..)
      repeat' (first | (simp -dsimp only [↓reduceIte, go_sem, c, hq, hj, hk]) | (refine arr_intro fun _ => ?_) | (rw [wrap_i64 (by omega) (by omega)]) | (refine guardV_split (fun h => ?_) (fun h => ?_) <;> (try rw [h]) <;> (try simp at h) <;> (try (exfalso; omega))) | (refine bI1 ?_) | (refine bI2 ?_) | (refine bI3 ?_) | (refine bI4 ?_) | (refine bD1 ?_) | (refine bD2 ?_))
      obtain ⟨tb, w1, w2, w3⟩ := h.w
      have c := cellAt_known w3
      repeat' (first | (simp -dsimp only [↓reduceIte, go_sem, c, hq, hj]) | (refine arr_intro fun _ => ?_) | (rw [wrap_i64 (by omega) (by omega)]) | (refine guardV_split (fun h => ?_) (fun h => ?_) <;> (try rw [h]) <;> (try simp at h) <;> (try (exfalso; omega))))
      refine ⟨h.x, rfl, ?_⟩
      simpa [AV.strip, AV.strips, Msg.bytes, Msg.rest, hq, subB, blobB] using hK
    · repeat' (first | (simp -dsimp only [↓reduceIte, go_sem, c, hq, hj, hk]) | (refine arr_intro fun _ => ?_) | (rw [wrap_i64 (by omega) (by omega)]) | (refine guardV_split (fun h => ?_) (fun h => ?_) <;> (try rw [h]) <;> (try simp at h) <;> (try (exfalso; omega))) | (refine bI1 ?_) | (refine bI2 ?_) | (refine bI3 ?_) | (refine bI4 ?_) | (refine bD1 ?_) | (refine bD2 ?_))
      refine wInts_c 1 (l := [m.client]) (by (intro n hn; simp at hn; omega)) (by simp) (by omega) (by omega) h fun s h b => ?_
      have c := h.cell (k := k) (List.mem_cons_self ..)
      repeat' (first | (simp -dsimp only [↓reduceIte, go_sem, c, hq, hj, hk]) | (refine arr_intro fun _ => ?_) | (rw [wrap_i64 (by omega) (by omega)]) | (refine guardV_split (fun h => ?_) (fun h => ?_) <;> (try rw [h]) <;> (try simp at h) <;> (try (exfalso; omega))) | (refine bI1 ?_) | (refine bI2 ?_) | (refine bI3 ?_) | (refine bI4 ?_) | (refine bD1 ?_) | (refine bD2 ?_))
      generalize hys : [m.kind].flatMap numS ++ [m.client].flatMap numS = ys at h b
      have e : m.bytes = ys ++ laidAll numS m.nums := by rw [← hys]; simp [Msg.bytes, Msg.rest, hq]
      rw [e] at hK
      have hyl : ys.length ≤ 100 := by omega
      obtain ⟨tb, w1, w2, w3⟩ := h.w
      have c1 := cellAt_known w3
      have o2 : ∀ n, (growS s tb n 1).objs[j]? = some (.cells (.agg [.slice tb (u8s ys)])) := fun n => by rw [growS_objs]; exact w3
      have c2 := fun n => cellAt_known (o2 n)
      have hl : ¬ 512 < m.nums.length := by have := hs.2; simp only [In] at this; omega
      have hl2 : (laidAll numS m.nums).length ≤ 20000 := by
        have h1 := part_len (f := numS) (l := m.nums) (m := 22) (i := m.nums.length) (fun x hx => numS_len (hs.in_ x hx).1 (hs.in_ x hx).2) (Nat.le_refl _); have := hs.2; simp only [In] at this; simp only [laidAll, List.length_append, List.length_cons, List.length_nil]; omega
      repeat' (first | (simp -dsimp only [↓reduceIte, go_sem, c, hq, hj, hk, c1, w3, o2, c2, hl]) | (refine arr_intro fun _ => ?_) | (rw [wrap_i64 (by omega) (by omega)]) | (refine guardV_split (fun h => ?_) (fun h => ?_) <;> (try rw [h]) <;> (try simp at h) <;> (try (exfalso; omega))) | (refine L01.numbers_c hs.in_ ?_) | (refine append_text E51 Tryz.underlying9 w2 (by omega) (by simp only [maxL]; omega) ?_))
      have h := h.grow (m := ys.length + (laidAll numS m.nums).length) (ys := ys ++ laidAll numS m.nums) w1 w2 w3 (by simp)
      obtain ⟨tb, w1, w2, w3⟩ := h.w
      have c := cellAt_known w3
      repeat' (first | (simp -dsimp only [↓reduceIte, go_sem, c, hq, hj]) | (refine arr_intro fun _ => ?_) | (rw [wrap_i64 (by omega) (by omega)]) | (refine guardV_split (fun h => ?_) (fun h => ?_) <;> (try rw [h]) <;> (try simp at h) <;> (try (exfalso; omega))))
      refine ⟨h.x, rfl, ?_⟩
      simpa [AV.strip, AV.strips, Msg.bytes, Msg.rest, hq, subB, blobB] using hK
    · obtain ⟨o1, o2, o3⟩ := hs
      simp only [In] at o1 o2
      repeat' (first | (simp -dsimp only [↓reduceIte, go_sem, c, hq, hj, hk]) | (refine arr_intro fun _ => ?_) | (rw [wrap_i64 (by omega) (by omega)]) | (refine guardV_split (fun h => ?_) (fun h => ?_) <;> (try rw [h]) <;> (try simp at h) <;> (try (exfalso; omega))) | (refine bI1 ?_) | (refine bI2 ?_) | (refine bI3 ?_) | (refine bI4 ?_) | (refine bD1 ?_) | (refine bD2 ?_))
      refine wInts_c 2 (l := [m.blob.owner, m.blob.num]) (by (intro n hn; simp at hn; omega)) (by simp) (by omega) (by omega) h fun s h b => ?_
      have c := h.cell (k := k) (List.mem_cons_self ..)
      repeat' (first | (simp -dsimp only [↓reduceIte, go_sem, c, hq, hj, hk]) | (refine arr_intro fun _ => ?_) | (rw [wrap_i64 (by omega) (by omega)]) | (refine guardV_split (fun h => ?_) (fun h => ?_) <;> (try rw [h]) <;> (try simp at h) <;> (try (exfalso; omega))) | (refine bI1 ?_) | (refine bI2 ?_) | (refine bI3 ?_) | (refine bI4 ?_) | (refine bD1 ?_) | (refine bD2 ?_))
      refine wText_c 4096 (by omega) (by omega) (by omega) h fun s h b => ?_
      have c := h.cell (k := k) (List.mem_cons_self ..)
      repeat' (first | (simp -dsimp only [↓reduceIte, go_sem, c, hq, hj, hk]) | (refine arr_intro fun _ => ?_) | (rw [wrap_i64 (by omega) (by omega)]) | (refine guardV_split (fun h => ?_) (fun h => ?_) <;> (try rw [h]) <;> (try simp at h) <;> (try (exfalso; omega))) | (refine bI1 ?_) | (refine bI2 ?_) | (refine bI3 ?_) | (refine bI4 ?_) | (refine bD1 ?_) | (refine bD2 ?_))
      refine wDigs_c 1 (l := [m.blob.tag]) (by simp) (by omega) (by omega) h fun s h b => ?_
      have c := h.cell (k := k) (List.mem_cons_self ..)
      repeat' (first | (simp -dsimp only [↓reduceIte, go_sem, c, hq, hj, hk]) | (refine arr_intro fun _ => ?_) | (rw [wrap_i64 (by omega) (by omega)]) | (refine guardV_split (fun h => ?_) (fun h => ?_) <;> (try rw [h]) <;> (try simp at h) <;> (try (exfalso; omega))) | (refine bI1 ?_) | (refine bI2 ?_) | (refine bI3 ?_) | (refine bI4 ?_) | (refine bD1 ?_) | (refine bD2 ?_))
      obtain ⟨tb, w1, w2, w3⟩ := h.w
      have c := cellAt_known w3
      repeat' (first | (simp -dsimp only [↓reduceIte, go_sem, c, hq, hj]) | (refine arr_intro fun _ => ?_) | (rw [wrap_i64 (by omega) (by omega)]) | (refine guardV_split (fun h => ?_) (fun h => ?_) <;> (try rw [h]) <;> (try simp at h) <;> (try (exfalso; omega))))
      refine ⟨h.x, rfl, ?_⟩
      simpa [AV.strip, AV.strips, Msg.bytes, Msg.rest, hq, subB, blobB] using hK
    · repeat' (first | (simp -dsimp only [↓reduceIte, go_sem, c, hq, hj, hk]) | (refine arr_intro fun _ => ?_) | (rw [wrap_i64 (by omega) (by omega)]) | (refine guardV_split (fun h => ?_) (fun h => ?_) <;> (try rw [h]) <;> (try simp at h) <;> (try (exfalso; omega))) | (refine bI1 ?_) | (refine bI2 ?_) | (refine bI3 ?_) | (refine bI4 ?_) | (refine bD1 ?_) | (refine bD2 ?_))
      refine wInts_c 1 (l := [m.client]) (by (intro n hn; simp at hn; omega)) (by simp) (by omega) (by omega) h fun s h b => ?_
      have c := h.cell (k := k) (List.mem_cons_self ..)
      repeat' (first | (simp -dsimp only [↓reduceIte, go_sem, c, hq, hj, hk]) | (refine arr_intro fun _ => ?_) | (rw [wrap_i64 (by omega) (by omega)]) | (refine guardV_split (fun h => ?_) (fun h => ?_) <;> (try rw [h]) <;> (try simp at h) <;> (try (exfalso; omega))) | (refine bI1 ?_) | (refine bI2 ?_) | (refine bI3 ?_) | (refine bI4 ?_) | (refine bD1 ?_) | (refine bD2 ?_))
      generalize hys : [m.kind].flatMap numS ++ [m.client].flatMap numS = ys at h b
      have e : m.bytes = ys ++ laidAll numS m.nums := by rw [← hys]; simp [Msg.bytes, Msg.rest, hq]
      rw [e] at hK
      have hyl : ys.length ≤ 100 := by omega
      obtain ⟨tb, w1, w2, w3⟩ := h.w
      have c1 := cellAt_known w3
      have o2 : ∀ n, (growS s tb n 1).objs[j]? = some (.cells (.agg [.slice tb (u8s ys)])) := fun n => by rw [growS_objs]; exact w3
      have c2 := fun n => cellAt_known (o2 n)
      have hl : ¬ 512 < m.nums.length := by have := hs.2; simp only [In] at this; omega
      have hl2 : (laidAll numS m.nums).length ≤ 20000 := by
        have h1 := part_len (f := numS) (l := m.nums) (m := 22) (i := m.nums.length) (fun x hx => numS_len (hs.in_ x hx).1 (hs.in_ x hx).2) (Nat.le_refl _); have := hs.2; simp only [In] at this; simp only [laidAll, List.length_append, List.length_cons, List.length_nil]; omega
      repeat' (first | (simp -dsimp only [↓reduceIte, go_sem, c, hq, hj, hk, c1, w3, o2, c2, hl]) | (refine arr_intro fun _ => ?_) | (rw [wrap_i64 (by omega) (by omega)]) | (refine guardV_split (fun h => ?_) (fun h => ?_) <;> (try rw [h]) <;> (try simp at h) <;> (try (exfalso; omega))) | (refine L01.numbers_c hs.in_ ?_) | (refine append_text E51 Tryz.underlying9 w2 (by omega) (by simp only [maxL]; omega) ?_))
      have h := h.grow (m := ys.length + (laidAll numS m.nums).length) (ys := ys ++ laidAll numS m.nums) w1 w2 w3 (by simp)
      obtain ⟨tb, w1, w2, w3⟩ := h.w
      have c := cellAt_known w3
      repeat' (first | (simp -dsimp only [↓reduceIte, go_sem, c, hq, hj]) | (refine arr_intro fun _ => ?_) | (rw [wrap_i64 (by omega) (by omega)]) | (refine guardV_split (fun h => ?_) (fun h => ?_) <;> (try rw [h]) <;> (try simp at h) <;> (try (exfalso; omega))))
      refine ⟨h.x, rfl, ?_⟩
      simpa [AV.strip, AV.strips, Msg.bytes, Msg.rest, hq, subB, blobB] using hK
    · repeat' (first | (simp -dsimp only [↓reduceIte, go_sem, c, hq, hj, hk]) | (refine arr_intro fun _ => ?_) | (rw [wrap_i64 (by omega) (by omega)]) | (refine guardV_split (fun h => ?_) (fun h => ?_) <;> (try rw [h]) <;> (try simp at h) <;> (try (exfalso; omega))) | (refine bI1 ?_) | (refine bI2 ?_) | (refine bI3 ?_) | (refine bI4 ?_) | (refine bD1 ?_) | (refine bD2 ?_))
      refine wInts_c 1 (l := [m.client]) (by (intro n hn; simp at hn; omega)) (by simp) (by omega) (by omega) h fun s h b => ?_
      have c := h.cell (k := k) (List.mem_cons_self ..)
      repeat' (first | (simp -dsimp only [↓reduceIte, go_sem, c, hq, hj, hk]) | (refine arr_intro fun _ => ?_) | (rw [wrap_i64 (by omega) (by omega)]) | (refine guardV_split (fun h => ?_) (fun h => ?_) <;> (try rw [h]) <;> (try simp at h) <;> (try (exfalso; omega))) | (refine bI1 ?_) | (refine bI2 ?_) | (refine bI3 ?_) | (refine bI4 ?_) | (refine bD1 ?_) | (refine bD2 ?_))
      generalize hys : [m.kind].flatMap numS ++ [m.client].flatMap numS = ys at h b
      have e : m.bytes = ys ++ laidAll numS m.nums := by rw [← hys]; simp [Msg.bytes, Msg.rest, hq]
      rw [e] at hK
      have hyl : ys.length ≤ 100 := by omega
      obtain ⟨tb, w1, w2, w3⟩ := h.w
      have c1 := cellAt_known w3
      have o2 : ∀ n, (growS s tb n 1).objs[j]? = some (.cells (.agg [.slice tb (u8s ys)])) := fun n => by rw [growS_objs]; exact w3
      have c2 := fun n => cellAt_known (o2 n)
      have hl : ¬ 512 < m.nums.length := by have := hs.2; simp only [In] at this; omega
      have hl2 : (laidAll numS m.nums).length ≤ 20000 := by
        have h1 := part_len (f := numS) (l := m.nums) (m := 22) (i := m.nums.length) (fun x hx => numS_len (hs.in_ x hx).1 (hs.in_ x hx).2) (Nat.le_refl _); have := hs.2; simp only [In] at this; simp only [laidAll, List.length_append, List.length_cons, List.length_nil]; omega
      repeat' (first | (simp -dsimp only [↓reduceIte, go_sem, c, hq, hj, hk, c1, w3, o2, c2, hl]) | (refine arr_intro fun _ => ?_) | (rw [wrap_i64 (by omega) (by omega)]) | (refine guardV_split (fun h => ?_) (fun h => ?_) <;> (try rw [h]) <;> (try simp at h) <;> (try (exfalso; omega))) | (refine L01.numbers_c hs.in_ ?_) | (refine append_text E51 Tryz.underlying9 w2 (by omega) (by simp only [maxL]; omega) ?_))
      have h := h.grow (m := ys.length + (laidAll numS m.nums).length) (ys := ys ++ laidAll numS m.nums) w1 w2 w3 (by simp)
      obtain ⟨tb, w1, w2, w3⟩ := h.w
      have c := cellAt_known w3
      repeat' (first | (simp -dsimp only [↓reduceIte, go_sem, c, hq, hj]) | (refine arr_intro fun _ => ?_) | (rw [wrap_i64 (by omega) (by omega)]) | (refine guardV_split (fun h => ?_) (fun h => ?_) <;> (try rw [h]) <;> (try simp at h) <;> (try (exfalso; omega))))
      refine ⟨h.x, rfl, ?_⟩
      simpa [AV.strip, AV.strips, Msg.bytes, Msg.rest, hq, subB, blobB] using hK
    · repeat' (first | (simp -dsimp only [↓reduceIte, go_sem, c, hq, hj, hk]) | (refine arr_intro fun _ => ?_) | (rw [wrap_i64 (by omega) (by omega)]) | (refine guardV_split (fun h => ?_) (fun h => ?_) <;> (try rw [h]) <;> (try simp at h) <;> (try (exfalso; omega))) | (refine bI1 ?_) | (refine bI2 ?_) | (refine bI3 ?_) | (refine bI4 ?_) | (refine bD1 ?_) | (refine bD2 ?_))
      refine wInts_c 1 (l := [m.client]) (by (intro n hn; simp at hn; omega)) (by simp) (by omega) (by omega) h fun s h b => ?_
      have c := h.cell (k := k) (List.mem_cons_self ..)
      repeat' (first | (simp -dsimp only [↓reduceIte, go_sem, c, hq, hj, hk]) | (refine arr_intro fun _ => ?_) | (rw [wrap_i64 (by omega) (by omega)]) | (refine guardV_split (fun h => ?_) (fun h => ?_) <;> (try rw [h]) <;> (try simp at h) <;> (try (exfalso; omega))) | (refine bI1 ?_) | (refine bI2 ?_) | (refine bI3 ?_) | (refine bI4 ?_) | (refine bD1 ?_) | (refine bD2 ?_))
      obtain ⟨tb, w1, w2, w3⟩ := h.w
      have c := cellAt_known w3
      repeat' (first | (simp -dsimp only [↓reduceIte, go_sem, c, hq, hj]) | (refine arr_intro fun _ => ?_) | (rw [wrap_i64 (by omega) (by omega)]) | (refine guardV_split (fun h => ?_) (fun h => ?_) <;> (try rw [h]) <;> (try simp at h) <;> (try (exfalso; omega))))
      refine ⟨h.x, rfl, ?_⟩
      simpa [AV.strip, AV.strips, Msg.bytes, Msg.rest, hq, subB, blobB] using hK
    · obtain ⟨o0, _, o1, o2, _⟩ := hs
      simp only [In] at o0
      repeat' (first | (simp -dsimp only [↓reduceIte, go_sem, c, hq, hj, hk]) | (refine arr_intro fun _ => ?_) | (rw [wrap_i64 (by omega) (by omega)]) | (refine guardV_split (fun h => ?_) (fun h => ?_) <;> (try rw [h]) <;> (try simp at h) <;> (try (exfalso; omega))) | (refine bI1 ?_) | (refine bI2 ?_) | (refine bI3 ?_) | (refine bI4 ?_) | (refine bD1 ?_) | (refine bD2 ?_))
      refine wInts_c 1 (l := [m.client]) (by (intro n hn; simp at hn; omega)) (by simp) (by omega) (by omega) h fun s h b => ?_
      have c := h.cell (k := k) (List.mem_cons_self ..)
      repeat' (first | (simp -dsimp only [↓reduceIte, go_sem, c, hq, hj, hk]) | (refine arr_intro fun _ => ?_) | (rw [wrap_i64 (by omega) (by omega)]) | (refine guardV_split (fun h => ?_) (fun h => ?_) <;> (try rw [h]) <;> (try simp at h) <;> (try (exfalso; omega))) | (refine bI1 ?_) | (refine bI2 ?_) | (refine bI3 ?_) | (refine bI4 ?_) | (refine bD1 ?_) | (refine bD2 ?_))
      refine wInts_c 1 (l := [m.by_]) (by (intro n hn; simp at hn; omega)) (by simp) (by omega) (by omega) h fun s h b => ?_
      have c := h.cell (k := k) (List.mem_cons_self ..)
      repeat' (first | (simp -dsimp only [↓reduceIte, go_sem, c, hq, hj, hk]) | (refine arr_intro fun _ => ?_) | (rw [wrap_i64 (by omega) (by omega)]) | (refine guardV_split (fun h => ?_) (fun h => ?_) <;> (try rw [h]) <;> (try simp at h) <;> (try (exfalso; omega))) | (refine bI1 ?_) | (refine bI2 ?_) | (refine bI3 ?_) | (refine bI4 ?_) | (refine bD1 ?_) | (refine bD2 ?_))
      refine wText_c 512 (by omega) (by omega) (by omega) h fun s h b => ?_
      have c := h.cell (k := k) (List.mem_cons_self ..)
      repeat' (first | (simp -dsimp only [↓reduceIte, go_sem, c, hq, hj, hk]) | (refine arr_intro fun _ => ?_) | (rw [wrap_i64 (by omega) (by omega)]) | (refine guardV_split (fun h => ?_) (fun h => ?_) <;> (try rw [h]) <;> (try simp at h) <;> (try (exfalso; omega))) | (refine bI1 ?_) | (refine bI2 ?_) | (refine bI3 ?_) | (refine bI4 ?_) | (refine bD1 ?_) | (refine bD2 ?_))
      refine wDigs_c 2 (l := [m.tag, m.own]) (by simp) (by omega) (by omega) h fun s h b => ?_
      have c := h.cell (k := k) (List.mem_cons_self ..)
      repeat' (first | (simp -dsimp only [↓reduceIte, go_sem, c, hq, hj, hk]) | (refine arr_intro fun _ => ?_) | (rw [wrap_i64 (by omega) (by omega)]) | (refine guardV_split (fun h => ?_) (fun h => ?_) <;> (try rw [h]) <;> (try simp at h) <;> (try (exfalso; omega))) | (refine bI1 ?_) | (refine bI2 ?_) | (refine bI3 ?_) | (refine bI4 ?_) | (refine bD1 ?_) | (refine bD2 ?_))
      obtain ⟨tb, w1, w2, w3⟩ := h.w
      have c := cellAt_known w3
      repeat' (first | (simp -dsimp only [↓reduceIte, go_sem, c, hq, hj]) | (refine arr_intro fun _ => ?_) | (rw [wrap_i64 (by omega) (by omega)]) | (refine guardV_split (fun h => ?_) (fun h => ?_) <;> (try rw [h]) <;> (try simp at h) <;> (try (exfalso; omega))))
      refine ⟨h.x, rfl, ?_⟩
      simpa [AV.strip, AV.strips, Msg.bytes, Msg.rest, hq, subB, blobB] using hK
    · repeat' (first | (simp -dsimp only [↓reduceIte, go_sem, c, hq, hj, hk]) | (refine arr_intro fun _ => ?_) | (rw [wrap_i64 (by omega) (by omega)]) | (refine guardV_split (fun h => ?_) (fun h => ?_) <;> (try rw [h]) <;> (try simp at h) <;> (try (exfalso; omega))) | (refine bI1 ?_) | (refine bI2 ?_) | (refine bI3 ?_) | (refine bI4 ?_) | (refine bD1 ?_) | (refine bD2 ?_))
      refine wInts_c 1 (l := [m.client]) (by (intro n hn; simp at hn; omega)) (by simp) (by omega) (by omega) h fun s h b => ?_
      have c := h.cell (k := k) (List.mem_cons_self ..)
      repeat' (first | (simp -dsimp only [↓reduceIte, go_sem, c, hq, hj, hk]) | (refine arr_intro fun _ => ?_) | (rw [wrap_i64 (by omega) (by omega)]) | (refine guardV_split (fun h => ?_) (fun h => ?_) <;> (try rw [h]) <;> (try simp at h) <;> (try (exfalso; omega))) | (refine bI1 ?_) | (refine bI2 ?_) | (refine bI3 ?_) | (refine bI4 ?_) | (refine bD1 ?_) | (refine bD2 ?_))
      refine wDigs_c 1 (l := [m.own]) (by simp) (by omega) (by omega) h fun s h b => ?_
      have c := h.cell (k := k) (List.mem_cons_self ..)
      repeat' (first | (simp -dsimp only [↓reduceIte, go_sem, c, hq, hj, hk]) | (refine arr_intro fun _ => ?_) | (rw [wrap_i64 (by omega) (by omega)]) | (refine guardV_split (fun h => ?_) (fun h => ?_) <;> (try rw [h]) <;> (try simp at h) <;> (try (exfalso; omega))) | (refine bI1 ?_) | (refine bI2 ?_) | (refine bI3 ?_) | (refine bI4 ?_) | (refine bD1 ?_) | (refine bD2 ?_))
      obtain ⟨tb, w1, w2, w3⟩ := h.w
      have c := cellAt_known w3
      repeat' (first | (simp -dsimp only [↓reduceIte, go_sem, c, hq, hj]) | (refine arr_intro fun _ => ?_) | (rw [wrap_i64 (by omega) (by omega)]) | (refine guardV_split (fun h => ?_) (fun h => ?_) <;> (try rw [h]) <;> (try simp at h) <;> (try (exfalso; omega))))
      refine ⟨h.x, rfl, ?_⟩
      simpa [AV.strip, AV.strips, Msg.bytes, Msg.rest, hq, subB, blobB] using hK
  · rw [if_neg hok] at hK
    repeat' (first | (simp -dsimp only [↓reduceIte, go_sem, hok]) | (refine arr_intro fun _ => ?_) | (rw [wrap_i64 (by omega) (by omega)]) | (refine guardV_split (fun h => ?_) (fun h => ?_) <;> (try rw [h]) <;> (try simp at h) <;> (try (exfalso; omega))))
    exact ⟨Ext.app _ _, rfl, by simpa [AV.strip, AV.strips] using hK⟩
end Go.Aff.L10

/- Layer 10, walked: the reference's bytes. -/
namespace Go.Aff.L10
open Go.Proofs Go.Aff Go.Aff.L01 Classical
set_option linter.unusedVariables false
set_option linter.unusedSimpArgs false
set_option maxRecDepth 20000
attribute [local go_sem] push_app app_app length_app cellAt_app cellAt_app0 set_app set_app0 objs_app objs_app0 List.cons_append List.nil_append List.length_cons List.length_nil List.getElem?_cons_zero List.getElem?_cons_succ List.set_cons_zero List.set_cons_succ List.length_map
attribute [-go_sem] cellAt_new
attribute [-simp] List.length_flatMap
attribute [local go_sem] Tryz.underlying3 Tryz.underlying4 Tryz.underlying5 Tryz.underlying9 Tryz.underlying39 Tryz.underlying40 Tryz.underlying43 Tryz.underlying25 Tryz.underlying50 Tryz.underlying76 subPs_0 subAt_0 subSet_0 subPs_1 subAt_1 subSet_1 subPs_2 subAt_2 subSet_2 subPs_3 subAt_3 subSet_3 subPs_4 subAt_4 subSet_4 subPs_5 subAt_5 subSet_5 sizes_sub shapes_sub fits_sub zero_sub zt_sub built_sub Tryz.underlying42 pendPs_0 pendAt_0 pendSet_0 pendPs_1 pendAt_1 pendSet_1 pendPs_2 pendAt_2 pendSet_2 pendPs_3 pendAt_3 pendSet_3 pendPs_4 pendAt_4 pendSet_4 pendPs_5 pendAt_5 pendSet_5 sizes_pend shapes_pend fits_pend zero_pend zt_pend built_pend Tryz.underlying104 repPs_0 repAt_0 repSet_0 repPs_1 repAt_1 repSet_1 repPs_2 repAt_2 repSet_2 repPs_3 repAt_3 repSet_3 repPs_4 repAt_4 repSet_4 repPs_5 repAt_5 repSet_5 repPs_6 repAt_6 repSet_6 repPs_7 repAt_7 repSet_7 repPs_8 repAt_8 repSet_8 repPs_9 repAt_9 repSet_9 sizes_rep shapes_rep fits_rep zero_rep zt_rep built_rep Tryz.underlying45 blobPs_0 blobAt_0 blobSet_0 blobPs_1 blobAt_1 blobSet_1 blobPs_2 blobAt_2 blobSet_2 blobPs_3 blobAt_3 blobSet_3 sizes_blob shapes_blob fits_blob zero_blob zt_blob built_blob Tryz.underlying47 msgPs_0 msgAt_0 msgSet_0 msgPs_1 msgAt_1 msgSet_1 msgPs_2 msgAt_2 msgSet_2 msgPs_3 msgAt_3 msgSet_3 msgPs_4 msgAt_4 msgSet_4 msgPs_5 msgAt_5 msgSet_5 msgPs_6 msgAt_6 msgSet_6 msgPs_7 msgAt_7 msgSet_7 msgPs_8 msgAt_8 msgSet_8 msgPs_9 msgAt_9 msgSet_9 sizes_msg shapes_msg fits_msg zero_msg zt_msg built_msg Tryz.underlying49 at_Ps_0 at_At_0 at_Set_0 at_Ps_1 at_At_1 at_Set_1 sizes_at_ shapes_at_ fits_at_ zero_at_ zt_at_ built_at_ Tryz.underlying62
attribute [local go_sem] fits3 fits4 fits5 fits9 fits23 fits26 fits31 fits34 fits52 zt3 zero3 zt34 zero34 zt23 zero23 bin_sub_eql bin_pend_eql bin_pend_neq bin_blob_eql bin_dig23_eql bin_dig23_neq slice23
attribute [local go_sem ↓] blockQ_exit2
attribute [local simp] dig_ext

theorem build_u8 {KV : AV → Prop} {y : UInt8} (h : KV (.slice .full (u8s [y]))) : buildSliceW Tryz.prog 76 1 [(0, .int .u8 y.toNat)] KV :=
  build_slice E51 rfl (by decide) (by simp [go_sem, fits_leaf (P := Tryz.prog) (t := 5) L01.agg5 (by kernel_rfl)]) (by simpa [u8s] using h)

section
variable {σ : AST} {K : AV → AST → Prop} {tk : Tk}
theorem InI.len {l : List Int} (h : InI l) : (l.flatMap numS).length ≤ l.length * 22 := by have := numsN h l.length; simpa using this
theorem digS_len (d : Dig) : (digS d).length ≤ 53 := textS_le (m := 32) (by simp [d.h]) (by omega)

theorem ansB_len {x : Rep} (hok : x.Ok) : (ansB x).length ≤ 100000 := by
  obtain ⟨hp, h1, h2, h3, h4, h5, h6, h7, h8⟩ := hok
  simp only [In, ViewOk] at h1 h2 h5 h6 h7
  have hz : (x.pending.flatMap pendB).length ≤ x.pending.length * 194 := flat_len fun p hm => by
    have h1 := numsN (hp p hm).in_ 4
    have h2 := digs_take (l := [p.asked, p.proof]) (i := 2)
    simp at h1 h2
    simp [pendB]; omega
  have i1 : InI [x.num, x.last] := by (intro n hn; simp at hn; omega)
  have l1 := i1.len
  have l2 := textS_le (s := x.view) (m := 512) (by omega) (by omega)
  have l3 := digS_len x.commit
  have i4 : InI [(x.pending.length : Int)] := by (intro n hn; simp at hn; omega)
  have l4 := i4.len
  have i5 : InI [x.vnum] := by (intro n hn; simp at hn; omega)
  have l5 := i5.len
  have l6 := textS_le (s := x.value) (m := 256) (by omega) (by omega)
  have l7 := digS_len x.data
  have l8 := textS_le (s := x.seen) (m := 512) (by omega) (by omega)
  have l9 := digS_len x.seenTag
  simp only [List.length_cons, List.length_nil, List.flatMap_cons, List.flatMap_nil, List.append_nil, List.length_append] at *
  simp only [ansB, List.length_append, List.flatMap_cons, List.flatMap_nil, List.append_nil]
  omega
theorem numS2 : numS 2 = [50, 59] := by rw [numS, if_neg (by decide)]; rw [show (2 : Int).natAbs = 2 from rfl, dg_small (by decide)]; rfl
end
theorem appc {α : Type} {a : α} {l m : List α} : List.append (a :: l) m = a :: List.append l m := rfl
theorem appn {α : Type} {m : List α} : List.append [] m = m := rfl
attribute [local go_sem] bin_bool_ne appc appn

theorem refHist_c {t : List UInt8} {k : Int} {σ : AST} {K : AV → AST → Prop} (hk : -9223372036854775808 < k) (hk2 : k ≤ 9223372036854775807) (hK : K (.bool (decide (ViewOk k t))) σ) : TCalls Tryz.prog 56 [.str t, .int .i64 k] σ K := by
  refine tcalls_walk Tryz.f56 _ [.tmp 4] Tryz.func56 rfl rfl rfl mixed (Nat.le_of_ble_eq_true rfl) rfl fun hlen => ?_
  have hll : t.length ≤ 9223372036854775807 := hlen (.str t) (by simp)
  repeat' (first | (simp -dsimp only [↓reduceIte, go_sem]) | (refine arr_intro fun _ => ?_) | (rw [wrap_i64 (by omega) (by omega)]) | (refine guardV_split (fun h => ?_) (fun h => ?_) <;> (try rw [h]) <;> (try simp at h) <;> (try (exfalso; omega))))
  all_goals first
    | exact bool_end hK (by rw [eq_comm, decide_eq_false_iff_not]; intro hv; have := hv.2; omega)
    | skip
  refine awp_rounds (fun (i : Nat) τ s => s = σ ∧ i ≤ t.length ∧ (∀ (j : Nat) b, j < i → t[j]? = some b → (b.toNat : Int) < k) ∧ τ 0 = .str t ∧ τ 1 = .int .i64 k ∧ τ 5 = .int .i64 i) (fun i => t.length - i) 0 ?_ ?_
  · refine ⟨rfl, by omega, fun j y hj => by omega, ?_, ?_, ?_⟩ <;> (try simp only [go_sem]) <;> rfl
  · rintro i τ s ⟨rfl, hi, hall, t0, t1, t5⟩
    simp -dsimp only [↓reduceIte, go_sem, t0, t1, t5]
    refine arr_intro fun _ => ?_
    simp -dsimp only [↓reduceIte, go_sem, t0, t1, t5]
    refine boolW_split (fun hb => ?_) (fun hb => ?_)
    · have hb : i < t.length := by simp at hb; omega
      obtain ⟨y, hy, hm⟩ := get_of_lt hb
      have hy8 : (y.toNat : Int) < 256 := by have := y.toNat_lt; omega
      repeat' (first | (simp -dsimp only [↓reduceIte, go_sem, t0, t1, t5]) | (refine arr_intro fun _ => ?_) | (rw [wrap_i64 (by omega) (by omega)]) | (refine guardV_split (fun h => ?_) (fun h => ?_) <;> (try rw [h]) <;> (try simp at h) <;> (try (exfalso; omega))) | (refine nth_get hy ?_))
      · exact bool_end hK (by
          rw [eq_comm, decide_eq_false_iff_not]
          intro hv; have := hv.1 y hm; omega)
      · refine later_intro ⟨i + 1, by omega, rfl, by omega, ?_, ?_, ?_, ?_⟩ <;> (try simp only [go_sem, t0, t1, t5]) <;> (try rfl)
        intro j b hj hb'
        by_cases hji : j < i
        · exact hall j b hji hb'
        · obtain rfl : j = i := by omega
          rw [hy] at hb'; cases hb'; omega
    · have hb : i = t.length := by simp at hb; omega
      have ha : ∀ b ∈ t, (b.toNat : Int) < k := fun b hb2 => by
        obtain ⟨j, hj⟩ := List.mem_iff_getElem?.1 hb2
        exact hall j b (by have := (List.getElem?_eq_some_iff.1 hj).1; omega) hj
      repeat' (first | (simp -dsimp only [↓reduceIte, go_sem, t0, t1, t5]) | (refine arr_intro fun _ => ?_) | (rw [wrap_i64 (by omega) (by omega)]) | (refine guardV_split (fun h => ?_) (fun h => ?_) <;> (try rw [h]) <;> (try simp at h) <;> (try (exfalso; omega))))
      exact bool_end hK (by rw [eq_comm, decide_eq_true_eq]; exact ⟨ha, by omega, by omega, by omega⟩)

theorem refNums_c {l : List Int} {tk : Tk} {σ : AST} {K : AV → AST → Prop} (hK : K (.bool (decide (NumsOk l))) σ) : TCalls Tryz.prog 57 [.slice tk (l.map (AV.int .i64))] σ K := by
  refine tcalls_walk Tryz.f57 _ [.tmp 2] Tryz.func57 rfl rfl rfl mixed (Nat.le_of_ble_eq_true rfl) rfl fun hlen => ?_
  have hll : l.length ≤ 9223372036854775807 := by simpa [maxL, lenOk] using hlen _ (List.mem_cons_self ..)
  repeat' (first | (simp -dsimp only [↓reduceIte, go_sem]) | (refine arr_intro fun _ => ?_) | (refine later_intro ⟨keeps_nil, ?_⟩) | (refine later_intro ⟨keeps_refl, ?_⟩) | (refine both_ways ?_ ?_) | (rw [wrap_i64 (by omega) (by omega)]) | (refine guardV_split (fun h => ?_) (fun h => ?_) <;> (try rw [h]) <;> (try simp at h) <;> (try (exfalso; omega))))
  refine awp_rounds (fun (i : Nat) τ s => s = σ ∧ i ≤ l.length ∧ (∀ (j : Nat) n, j < i → l[j]? = some n → In 0 1099511627776 n ∧ ∀ m, 0 < j → l[j - 1]? = some m → m < n) ∧ τ 0 = .slice tk (l.map (AV.int .i64)) ∧ τ 3 = .int .i64 i) (fun i => l.length - i) 0 ?_ ?_
  · refine ⟨rfl, by omega, fun j y h => by omega, ?_, ?_⟩ <;> (try simp only [go_sem]) <;> rfl
  · rintro i τ s ⟨rfl, hi, hall, t0, t3⟩
    simp -dsimp only [↓reduceIte, go_sem, t0, t3]
    refine arr_intro fun _ => ?_
    simp -dsimp only [↓reduceIte, go_sem, t0, t3]
    refine boolW_split (fun hb => ?_) (fun hb => ?_)
    · have hb : i < l.length := by simp at hb; omega
      obtain ⟨y, hy, hm⟩ := get_of_lt hb
      have step : In 0 1099511627776 y → (∀ m, 0 < i → l[i - 1]? = some m → m < y) → ∀ (j : Nat) n, j < i + 1 → l[j]? = some n → In 0 1099511627776 n ∧ ∀ m, 0 < j → l[j - 1]? = some m → m < n := fun h1 h2 j n hj hn => by
        by_cases hji : j < i
        · exact hall j n hji hn
        · obtain rfl : j = i := by omega
          rw [hy] at hn; cases hn; exact ⟨h1, h2⟩
      repeat' (first | (simp -dsimp only [↓reduceIte, go_sem, t0, t3]) | (refine arr_intro fun _ => ?_) | (refine later_intro ⟨keeps_nil, ?_⟩) | (refine later_intro ⟨keeps_refl, ?_⟩) | (refine both_ways ?_ ?_) | (rw [wrap_i64 (by omega) (by omega)]) | (refine guardV_split (fun h => ?_) (fun h => ?_) <;> (try rw [h]) <;> (try simp at h) <;> (try (exfalso; omega))) | (with_reducible refine awp_drawS (id := 4) [0, 1, 2, 3, 4, 5, 6, 7, 8, 9, 10, 11, 12, 13, 14, 15, 16, 17, 18, 19, 20, 21] (by kernel_rfl) ?_) | (refine nth_get hy ?_) | (refine nth_pred hy (by omega) ?_) | (refine Within_c ?_))
      · refine bool_endD hK ?_
        simp only [Bool.false_eq_true, false_iff]
        intro h; have := (h.1 i y hy).2 _ (by assumption) (get_pred hy (by assumption)); omega
      · refine later_intro ⟨i + 1, by omega, rfl, by omega, step (by assumption) (fun m h0 hm => by rw [get_pred hy h0] at hm; cases hm; omega), ?_, ?_⟩ <;> (try simp only [go_sem, t0, t3]) <;> rfl
      · refine later_intro ⟨i + 1, by omega, rfl, by omega, step (by assumption) (fun m h0 hm => by omega), ?_, ?_⟩ <;> (try simp only [go_sem, t0, t3]) <;> rfl
      · refine bool_endD hK ?_
        simp only [Bool.false_eq_true, false_iff]
        intro h; exact absurd (h.1 i y hy).1 (by assumption)
    · have hb : i = l.length := by simp at hb; omega
      subst hb
      repeat' (first | (simp -dsimp only [↓reduceIte, go_sem, t0, t3]) | (refine arr_intro fun _ => ?_) | (refine later_intro ⟨keeps_nil, ?_⟩) | (refine later_intro ⟨keeps_refl, ?_⟩) | (refine both_ways ?_ ?_) | (rw [wrap_i64 (by omega) (by omega)]) | (refine guardV_split (fun h => ?_) (fun h => ?_) <;> (try rw [h]) <;> (try simp at h) <;> (try (exfalso; omega))) | (refine Within_c ?_))
      refine bool_endD hK ?_
      simp only [decide_eq_true_eq]
      exact ⟨fun h => ⟨fun j n hn => hall j n (List.getElem?_eq_some_iff.1 hn).1 hn, h⟩, fun h => h.2⟩

theorem asks_c {a b c : Int} {σ : AST} {K : AV → AST → Prop} (hK : K (.bool (decide (In 1 512 a ∧ In 1 2 b ∧ In 0 7 c))) σ) : TCalls Tryz.prog 54 [.int .i64 a, .int .i64 b, .int .i64 c] σ K := by
  refine tcalls_walk Tryz.f54 _ [.tmp 6] Tryz.func54 rfl rfl rfl mixed (Nat.le_of_ble_eq_true rfl) rfl fun hlen => ?_
  repeat' (first | (simp -dsimp only [↓reduceIte, go_sem]) | (refine arr_intro fun _ => ?_) | (rw [wrap_i64 (by omega) (by omega)]) | (refine guardV_split (fun h => ?_) (fun h => ?_) <;> (try rw [h]) <;> (try simp at h) <;> (try (exfalso; omega))) | (refine Within_c ?_))
  all_goals exact bool_endD hK (by simp_all)
theorem refSameReply_c {a b : Rep} {ta tb : Tk} {σ : AST} {K : AV → AST → Prop} (hK : K (.bool (decide (a = b))) σ) : TCalls Tryz.prog 75 [repV ta a, repV tb b] σ K := by
  refine TCalls.drop ?_
  refine tcalls_walk Tryz.f75 _ [.tmp 4] Tryz.func75 rfl rfl rfl mixed (Nat.le_of_ble_eq_true rfl) rfl fun hlen => ?_
  repeat' (first | (simp -dsimp only [↓reduceIte, go_sem]) | (refine arr_intro fun _ => ?_) | (refine later_intro ⟨keeps_nil, ?_⟩) | (refine later_intro ⟨keeps_refl, ?_⟩) | (refine both_ways ?_ ?_) | (rw [wrap_i64 (by omega) (by omega)]) | (refine guardV_split (fun h => ?_) (fun h => ?_) <;> (try rw [h]) <;> (try simp at h) <;> (try (exfalso; omega))))
  · refine bool_endDX (Ext.app _ _) hK ?_
    simp only [Bool.false_eq_true, false_iff]; rintro rfl; omega
  · have hab : a.pending.length = b.pending.length := by omega
    have hx : Ext σ (σ.app [.cells (repV ta a), .cells (repV tb b)]) := Ext.app _ _
    refine awp_rounds (fun (i : Nat) τ s => s = σ.app [.cells (repV ta a), .cells (repV tb b)] ∧ i ≤ a.pending.length ∧ (∀ (j : Nat) x y, j < i → a.pending[j]? = some x → b.pending[j]? = some y → x = y) ∧ τ 2 = .ptr (some (σ.objs.length, [])) ∧ τ 3 = .ptr (some (σ.objs.length + 1, [])) ∧ τ 5 = .int .i64 i) (fun i => a.pending.length - i) 0 ?_ ?_
    · refine ⟨rfl, by omega, fun j x y h => by omega, ?_, ?_, ?_⟩ <;> (try simp only [go_sem]) <;> rfl
    · rintro i τ s ⟨rfl, hi, hall, t2, t3, t5⟩
      simp -dsimp only [↓reduceIte, go_sem, t2, t3, t5]
      refine arr_intro fun _ => ?_
      have hll : a.pending.length ≤ 9223372036854775807 := by simpa [maxL] using ‹a.pending.length ≤ maxL›
      simp -dsimp only [↓reduceIte, go_sem, t2, t3, t5]
      refine boolW_split (fun hb => ?_) (fun hb => ?_)
      · have hb : i < a.pending.length := by simp at hb; omega
        obtain ⟨x, hax⟩ := get_lt hb
        obtain ⟨y, hby⟩ := get_lt (l := b.pending) (i := i) (by omega)
        repeat' (first | (simp -dsimp only [↓reduceIte, go_sem, t2, t3, t5]) | (refine arr_intro fun _ => ?_) | (refine later_intro ⟨keeps_nil, ?_⟩) | (refine later_intro ⟨keeps_refl, ?_⟩) | (refine both_ways ?_ ?_) | (rw [wrap_i64 (by omega) (by omega)]) | (refine guardV_split (fun h => ?_) (fun h => ?_) <;> (try rw [h]) <;> (try simp at h) <;> (try (exfalso; omega))) | (with_reducible refine awp_drawS (id := 6) [0, 1, 2, 3, 4, 5, 6, 7, 8, 9, 10] (by kernel_rfl) ?_) | (refine nth_get hax ?_) | (refine nth_get hby ?_))
        · refine bool_endDX hx hK ?_
          simp only [Bool.false_eq_true, false_iff]; rintro rfl; rw [hax] at hby; cases hby; exact absurd rfl (by assumption)
        · refine later_intro ⟨i + 1, by omega, rfl, by omega, all_next hall hax hby (by assumption), ?_, ?_, ?_⟩ <;> (try simp only [go_sem, t2, t3, t5]) <;> rfl
      · have hb : i = a.pending.length := by simp at hb; omega
        subst hb
        have hp : a.pending = b.pending := ext_to hab hall
        repeat' (first | (simp -dsimp only [↓reduceIte, go_sem, t2, t3, t5]) | (refine arr_intro fun _ => ?_) | (refine later_intro ⟨keeps_nil, ?_⟩) | (refine later_intro ⟨keeps_refl, ?_⟩) | (refine both_ways ?_ ?_) | (rw [wrap_i64 (by omega) (by omega)]) | (refine guardV_split (fun h => ?_) (fun h => ?_) <;> (try rw [h]) <;> (try simp at h) <;> (try (exfalso; omega))))
        all_goals (first | exact hK | (exfalso; omega) | (refine bool_endD hK ?_; simp_all [Rep.iff] <;> fail) | (refine bool_endDX (Ext.app _ _) hK ?_; simp_all [Rep.iff] <;> fail) | (refine bool_endDX (Ext.refl _) hK ?_; simp_all [Rep.iff] <;> fail) | (refine bool_endDX hx hK ?_; simp_all [Rep.iff] <;> fail) | (refine bool_endD hK ?_; simp [Rep.iff]; omega) | (refine bool_endDX (Ext.app _ _) hK ?_; simp [Rep.iff]; omega) | (refine bool_endDX (Ext.refl _) hK ?_; simp [Rep.iff]; omega) | (refine bool_endDX hx hK ?_; simp [Rep.iff]; omega) | (refine bool_endD hK ?_; simp_all [Rep.iff]; omega) | (refine bool_endDX (Ext.app _ _) hK ?_; simp_all [Rep.iff]; omega) | (refine bool_endDX (Ext.refl _) hK ?_; simp_all [Rep.iff]; omega) | (refine bool_endDX hx hK ?_; simp_all [Rep.iff]; omega) | (refine bool_endD hK ?_; simp_all [Rep.iff] <;> omega) | (refine bool_endDX (Ext.app _ _) hK ?_; simp_all [Rep.iff] <;> omega) | (refine bool_endDX (Ext.refl _) hK ?_; simp_all [Rep.iff] <;> omega) | (refine bool_endDX hx hK ?_; simp_all [Rep.iff] <;> omega))
  all_goals
    refine bool_endDX (Ext.app _ _) hK ?_
    simp only [Bool.false_eq_true, false_iff]; rintro rfl; simp_all
theorem refSame_c {a b : Msg} {ta ua tb ub : Tk} {σ : AST} {K : AV → AST → Prop} (hK : K (.bool (decide (a = b))) σ) : TCalls Tryz.prog 52 [msgV ta ua a, msgV tb ub b] σ K := by
  refine TCalls.drop ?_
  refine tcalls_walk Tryz.f52 _ [.tmp 4] Tryz.func52 rfl rfl rfl mixed (Nat.le_of_ble_eq_true rfl) rfl fun hlen => ?_
  have hx : Ext σ (σ.app [.cells (msgV ta ua a), .cells (msgV tb ub b)]) := Ext.app _ _
  repeat' (first | (simp -dsimp only [↓reduceIte, go_sem]) | (refine arr_intro fun _ => ?_) | (rw [wrap_i64 (by omega) (by omega)]) | (refine guardV_split (fun h => ?_) (fun h => ?_) <;> (try rw [h]) <;> (try simp at h) <;> (try (exfalso; omega))) | (refine L01.ints_c ?_) | (refine refSameReply_c ?_))
  all_goals (refine bool_endDX hx hK ?_)
  all_goals (first | (simp_all [Msg.iff] <;> fail) | trace_state)
theorem refReply_c {x : Rep} {tk : Tk} {σ : AST} {K : AV → AST → Prop} (hK : K (.bool (decide x.Ok)) σ) : TCalls Tryz.prog 55 [repV tk x] σ K := by
  refine TCalls.drop ?_
  refine tcalls_walk Tryz.f55 _ [.tmp 2] Tryz.func55 rfl rfl rfl mixed (Nat.le_of_ble_eq_true rfl) rfl fun hlen => ?_
  repeat' (first | (simp -dsimp only [↓reduceIte, go_sem]) | (refine arr_intro fun _ => ?_) | (rw [wrap_i64 (by omega) (by omega)]) | (refine guardV_split (fun h => ?_) (fun h => ?_) <;> (try rw [h]) <;> (try simp at h) <;> (try (exfalso; omega))))
  have bad : ∀ s, Ext σ s → ¬ x.Ok → Ext σ s ∧ (AV.bool false).noRef = true ∧ K (AV.bool false).strip σ := fun s hx h => bool_endDX hx hK (by simpa using h)
  generalize hO : AObj.cells (repV tk x) = O
  refine awp_rounds (fun (i : Nat) τ s => Ext (σ.app [O]) s ∧ i ≤ x.pending.length ∧ (∀ (j : Nat) p, j < i → x.pending[j]? = some p → p.Ok) ∧ τ 1 = .ptr (some (σ.objs.length, [])) ∧ τ 3 = .int .i64 i) (fun i => x.pending.length - i) 0 ?_ ?_
  · refine ⟨Ext.refl _, by omega, fun j y h => by omega, ?_, ?_⟩ <;> (try simp only [go_sem]) <;> rfl
  · rintro i τ s ⟨hx, hi, hall, t1, t3⟩
    have hxx : Ext σ s := (Ext.app _ _).trans hx
    have hc : ∀ p, cellAt s σ.objs.length p = (repV tk x).at p := fun p => cell_ext0 hx (by rw [← hO]; rfl) p
    simp -dsimp only [↓reduceIte, go_sem, t1, t3, hc]
    refine arr_intro fun _ => ?_
    have hll : x.pending.length ≤ 9223372036854775807 := by simpa [maxL] using ‹x.pending.length ≤ maxL›
    simp -dsimp only [↓reduceIte, go_sem, t1, t3, hc]
    refine boolW_split (fun hb => ?_) (fun hb => ?_)
    · have hb : i < x.pending.length := by simp at hb; omega
      obtain ⟨y, hy, hm⟩ := get_of_lt hb
      repeat' (first | (simp -dsimp only [↓reduceIte, go_sem, t1, t3, hc]) | (refine arr_intro fun _ => ?_) | (rw [wrap_i64 (by omega) (by omega)]) | (refine guardV_split (fun h => ?_) (fun h => ?_) <;> (try rw [h]) <;> (try simp at h) <;> (try (exfalso; omega))) | (refine nth_get hy ?_) | (refine Within_c ?_) | (refine asks_c ?_))
      all_goals first
        | exact bad _ (hxx.trans (Ext.app _ _)) (fun h => by have := h.1 y hm; simp_all [Pend.Ok])
        | skip
      refine later_intro ⟨i + 1, by omega, hx.trans (Ext.app _ _), by omega, ?_, ?_, ?_⟩ <;> (try simp only [go_sem, t1, t3]) <;> (try rfl)
      intro j p hj hp
      by_cases hji : j < i
      · exact hall j p hji hp
      · obtain rfl : j = i := by omega
        rw [hy] at hp; cases hp; simp_all [Pend.Ok]
    · have hb : i = x.pending.length := by simp at hb; omega
      subst hb
      have ha : ∀ p ∈ x.pending, p.Ok := fun p hp => by
        obtain ⟨j, hj⟩ := List.mem_iff_getElem?.1 hp
        exact hall j p (List.getElem?_eq_some_iff.1 hj).1 hj
      clear hx hO
      have hx := hxx
      repeat' (first | (simp -dsimp only [↓reduceIte, go_sem, t1, t3, hc]) | (refine arr_intro fun _ => ?_) | (rw [wrap_i64 (by omega) (by omega)]) | (refine guardV_split (fun h => ?_) (fun h => ?_) <;> (try rw [h]) <;> (try simp at h) <;> (try (exfalso; omega))) | (refine Within_c ?_) | (refine refHist_c (by omega) (by omega) ?_))
      all_goals (first | exact hK | (exfalso; omega) | (refine bool_endD hK ?_; simp_all [Rep.Ok, view_last] <;> fail) | (refine bool_endDX (Ext.app _ _) hK ?_; simp_all [Rep.Ok, view_last] <;> fail) | (refine bool_endDX (Ext.refl _) hK ?_; simp_all [Rep.Ok, view_last] <;> fail) | (refine bool_endDX hx hK ?_; simp_all [Rep.Ok, view_last] <;> fail) | (refine bool_endD hK ?_; simp [Rep.Ok, view_last]; omega) | (refine bool_endDX (Ext.app _ _) hK ?_; simp [Rep.Ok, view_last]; omega) | (refine bool_endDX (Ext.refl _) hK ?_; simp [Rep.Ok, view_last]; omega) | (refine bool_endDX hx hK ?_; simp [Rep.Ok, view_last]; omega) | (refine bool_endD hK ?_; simp_all [Rep.Ok, view_last]; omega) | (refine bool_endDX (Ext.app _ _) hK ?_; simp_all [Rep.Ok, view_last]; omega) | (refine bool_endDX (Ext.refl _) hK ?_; simp_all [Rep.Ok, view_last]; omega) | (refine bool_endDX hx hK ?_; simp_all [Rep.Ok, view_last]; omega) | (refine bool_endD hK ?_; simp_all [Rep.Ok, view_last] <;> omega) | (refine bool_endDX (Ext.app _ _) hK ?_; simp_all [Rep.Ok, view_last] <;> omega) | (refine bool_endDX (Ext.refl _) hK ?_; simp_all [Rep.Ok, view_last] <;> omega) | (refine bool_endDX hx hK ?_; simp_all [Rep.Ok, view_last] <;> omega))
end Go.Aff.L10

/- Layer 10, walked: the reference's Right, whole. -/
namespace Go.Aff.L10
open Go.Proofs Go.Aff Go.Aff.L01 Classical
set_option linter.unusedVariables false
set_option linter.unusedSimpArgs false
set_option maxRecDepth 20000
attribute [local go_sem] push_app app_app length_app cellAt_app cellAt_app0 set_app set_app0 objs_app objs_app0 List.cons_append List.nil_append List.length_cons List.length_nil List.getElem?_cons_zero List.getElem?_cons_succ List.set_cons_zero List.set_cons_succ List.length_map
attribute [-go_sem] cellAt_new
attribute [-simp] List.length_flatMap
attribute [local go_sem] Tryz.underlying3 Tryz.underlying4 Tryz.underlying5 Tryz.underlying9 Tryz.underlying39 Tryz.underlying40 Tryz.underlying43 Tryz.underlying25 Tryz.underlying50 Tryz.underlying76 subPs_0 subAt_0 subSet_0 subPs_1 subAt_1 subSet_1 subPs_2 subAt_2 subSet_2 subPs_3 subAt_3 subSet_3 subPs_4 subAt_4 subSet_4 subPs_5 subAt_5 subSet_5 sizes_sub shapes_sub fits_sub zero_sub zt_sub built_sub Tryz.underlying42 pendPs_0 pendAt_0 pendSet_0 pendPs_1 pendAt_1 pendSet_1 pendPs_2 pendAt_2 pendSet_2 pendPs_3 pendAt_3 pendSet_3 pendPs_4 pendAt_4 pendSet_4 pendPs_5 pendAt_5 pendSet_5 sizes_pend shapes_pend fits_pend zero_pend zt_pend built_pend Tryz.underlying104 repPs_0 repAt_0 repSet_0 repPs_1 repAt_1 repSet_1 repPs_2 repAt_2 repSet_2 repPs_3 repAt_3 repSet_3 repPs_4 repAt_4 repSet_4 repPs_5 repAt_5 repSet_5 repPs_6 repAt_6 repSet_6 repPs_7 repAt_7 repSet_7 repPs_8 repAt_8 repSet_8 repPs_9 repAt_9 repSet_9 sizes_rep shapes_rep fits_rep zero_rep zt_rep built_rep Tryz.underlying45 blobPs_0 blobAt_0 blobSet_0 blobPs_1 blobAt_1 blobSet_1 blobPs_2 blobAt_2 blobSet_2 blobPs_3 blobAt_3 blobSet_3 sizes_blob shapes_blob fits_blob zero_blob zt_blob built_blob Tryz.underlying47 msgPs_0 msgAt_0 msgSet_0 msgPs_1 msgAt_1 msgSet_1 msgPs_2 msgAt_2 msgSet_2 msgPs_3 msgAt_3 msgSet_3 msgPs_4 msgAt_4 msgSet_4 msgPs_5 msgAt_5 msgSet_5 msgPs_6 msgAt_6 msgSet_6 msgPs_7 msgAt_7 msgSet_7 msgPs_8 msgAt_8 msgSet_8 msgPs_9 msgAt_9 msgSet_9 sizes_msg shapes_msg fits_msg zero_msg zt_msg built_msg Tryz.underlying49 at_Ps_0 at_At_0 at_Set_0 at_Ps_1 at_At_1 at_Set_1 sizes_at_ shapes_at_ fits_at_ zero_at_ zt_at_ built_at_ Tryz.underlying62
attribute [local go_sem] fits3 fits4 fits5 fits9 fits23 fits26 fits31 fits34 fits52 zt3 zero3 zt34 zero34 zt23 zero23 bin_sub_eql bin_pend_eql bin_pend_neq bin_blob_eql bin_dig23_eql bin_dig23_neq slice23
attribute [local go_sem ↓] blockQ_exit2
attribute [local simp] dig_ext
theorem built23 : Built Tryz.prog 40 = True := eq_true (by unfold Built; rw [Tryz.underlying40]; decide +kernel)
theorem msgSet_9n {m : Msg} {t u v : Tk} : (msgPs t u m).set 9 (.slice v []) = msgPs t v { m with nums := [] } := rfl
attribute [local go_sem] bin_bool_ne appc appn built23 msgSet_9n

def Msg.bare (m : Msg) : Msg :=
  if m.kind = 1 then { m with sub := sub0 }
  else if m.kind = 2 then { m with rep := rep0 }
  else if m.kind = 3 then { m with view := [], tag := dig0 }
  else if m.kind = 4 ∨ m.kind = 6 then { m with blob := blob0 }
  else if m.kind = 5 ∨ m.kind = 7 ∨ m.kind = 8 then { m with nums := [] }
  else if m.kind = 10 then { m with by_ := 0, view := [], tag := dig0, own := dig0 }
  else if m.kind = 11 then { m with own := dig0 }
  else m
def Msg.head (m : Msg) : Msg := { msg0 with kind := m.kind, client := m.client }
theorem bare_c {m : Msg} (hw : -9223372036854775808 ≤ m.by_ ∧ m.by_ ≤ 9223372036854775807) {t u : Tk} {σ : AST} {K : AV → AST → Prop} (hK : ∀ t' u', K (msgV t' u' m.bare) σ) : TCalls Tryz.prog 53 [msgV t u m] σ K := by
  refine TCalls.drop ?_
  refine tcalls_walk Tryz.f53 _ [.cell 2 49] Tryz.func53 rfl rfl rfl mixed (Nat.le_of_ble_eq_true rfl) rfl fun hlen => ?_
  repeat' (first | (simp -dsimp only [↓reduceIte, go_sem]) | (refine arr_intro fun _ => ?_) | (rw [wrap_i64 (by omega) (by omega)]) | (refine guardV_split (fun h => ?_) (fun h => ?_) <;> (try rw [h]) <;> (try simp at h) <;> (try (exfalso; omega))))
  all_goals
    refine ⟨Ext.app _ _, ?_, ?_⟩
    · simp [AV.noRef, AV.noRefs, msgPs, repPs, subPs, blobPs, noRefs_pends, noRefs_ints, msg0, rep0, sub0, blob0]
    · simp only [AV.strip, AV.strips, msg_strips]
      have key : ∀ {x : Msg} {t' u' : Tk}, x = m.bare → K (msgV t' u' x) σ := fun {x t' u'} h1 => by rw [h1]; exact hK t' u'
      refine key ?_
      simp_all [Msg.bare]
def Msg.Fields2 (m : Msg) : Prop :=
  if m.kind = 1 then (In 1 512 m.sub.num ∧ In 1 2 m.sub.kind ∧ In 0 7 m.sub.target) ∧ m.sub.value.length ≤ 256
  else if m.kind = 2 then m.client = 0 ∧ m.rep.Ok
  else if m.kind = 3 then m.view ≠ [] ∧ ViewOk 8 m.view
  else if m.kind = 4 ∨ m.kind = 6 then m.client = 0 ∧ In 0 7 m.blob.owner ∧ In 0 1099511627776 m.blob.num ∧ m.blob.cipher.length ≤ 4096
  else if m.kind = 5 ∨ m.kind = 7 ∨ m.kind = 8 then NumsOk m.nums
  else if m.kind = 10 then In 0 7 m.by_ ∧ m.view ≠ [] ∧ ViewOk 8 m.view
  else True
theorem Msg.ok_iff {m : Msg} : m.Ok ↔ In 1 11 m.kind ∧ In 0 7 m.client ∧ m.bare = m.head ∧ m.Fields2 := by
  unfold Msg.Ok
  by_cases k : m.kind = 1 ∨ m.kind = 2 ∨ m.kind = 3 ∨ m.kind = 4 ∨ m.kind = 5 ∨ m.kind = 6 ∨ m.kind = 7 ∨ m.kind = 8 ∨ m.kind = 9 ∨ m.kind = 10 ∨ m.kind = 11
  · rcases k with k | k | k | k | k | k | k | k | k | k | k
    all_goals
      simp only [Msg.FieldsOk, Msg.own_, Msg.bare, Msg.head, Msg.Fields2, k, Msg.iff, Sub.Ok, Blob.Ok]
      have hin : In 1 11 m.kind := by rw [k]; simp [In]
      rw [k] at hin
      simp [msg0, hin]
      try grind
  · have h1 : ¬ m.FieldsOk := by
      unfold Msg.FieldsOk
      simp_all
    have h2 : ¬ In 1 11 m.kind := by unfold In; omega
    simp [h1, h2]
theorem refRight_c {m : Msg} (hw : -9223372036854775808 ≤ m.by_ ∧ m.by_ ≤ 9223372036854775807) {t u : Tk} {σ : AST} {K : AV → AST → Prop} (hK : K (.bool (decide m.Ok)) σ) : TCalls Tryz.prog 27 [msgV t u m] σ K := by
  refine TCalls.drop ?_
  refine tcalls_walk Tryz.f27 _ [.tmp 2] Tryz.func27 rfl rfl rfl mixed (Nat.le_of_ble_eq_true rfl) rfl fun hlen => ?_
  repeat' (first | (simp -dsimp only [↓reduceIte, go_sem]) | (refine arr_intro fun _ => ?_) | (refine later_intro ⟨keeps_nil, ?_⟩) | (refine later_intro ⟨keeps_refl, ?_⟩) | (refine both_ways ?_ ?_) | (rw [wrap_i64 (by omega) (by omega)]) | (refine guardV_split (fun h => ?_) (fun h => ?_) <;> (try rw [h]) <;> (try simp at h) <;> (try (exfalso; omega))) | (with_reducible refine awp_drawS (id := 1) [0, 1, 2, 3, 4, 5, 6, 7, 8, 9, 10, 11, 13, 14, 15, 16, 17, 12, 18, 19, 20] (by kernel_rfl) ?_) | (refine Within_c ?_) | (refine bare_c hw fun t' u' => ?_) | (refine refSame_c (b := m.head) ?_) | (refine asks_c ?_) | (refine refReply_c ?_) | (refine refHist_c (by omega) (by omega) ?_) | (refine refNums_c ?_))
  all_goals refine bool_endDX (Ext.app _ _) hK ?_
  all_goals rw [Msg.ok_iff]
  all_goals first | (simp_all [Msg.Fields2, -not_and] <;> fail) | (simp_all [Msg.Fields2]; omega) | (simp_all [Msg.Fields2] <;> grind)
end Go.Aff.L10

/- Layer 10, walked: the reader. -/
namespace Go.Aff.L10
open Go.Proofs Go.Aff Go.Aff.L01 Classical
set_option linter.unusedVariables false
set_option linter.unusedSimpArgs false
set_option maxRecDepth 20000
attribute [local go_sem] push_app app_app length_app cellAt_app cellAt_app0 set_app set_app0 objs_app objs_app0 List.cons_append List.nil_append List.length_cons List.length_nil List.getElem?_cons_zero List.getElem?_cons_succ List.set_cons_zero List.set_cons_succ List.length_map
attribute [-go_sem] cellAt_new
attribute [-simp] List.length_flatMap
attribute [local go_sem] Tryz.underlying3 Tryz.underlying4 Tryz.underlying5 Tryz.underlying9 Tryz.underlying39 Tryz.underlying40 Tryz.underlying43 Tryz.underlying25 Tryz.underlying50 Tryz.underlying76 subPs_0 subAt_0 subSet_0 subPs_1 subAt_1 subSet_1 subPs_2 subAt_2 subSet_2 subPs_3 subAt_3 subSet_3 subPs_4 subAt_4 subSet_4 subPs_5 subAt_5 subSet_5 sizes_sub shapes_sub fits_sub zero_sub zt_sub built_sub Tryz.underlying42 pendPs_0 pendAt_0 pendSet_0 pendPs_1 pendAt_1 pendSet_1 pendPs_2 pendAt_2 pendSet_2 pendPs_3 pendAt_3 pendSet_3 pendPs_4 pendAt_4 pendSet_4 pendPs_5 pendAt_5 pendSet_5 sizes_pend shapes_pend fits_pend zero_pend zt_pend built_pend Tryz.underlying104 repPs_0 repAt_0 repSet_0 repPs_1 repAt_1 repSet_1 repPs_2 repAt_2 repSet_2 repPs_3 repAt_3 repSet_3 repPs_4 repAt_4 repSet_4 repPs_5 repAt_5 repSet_5 repPs_6 repAt_6 repSet_6 repPs_7 repAt_7 repSet_7 repPs_8 repAt_8 repSet_8 repPs_9 repAt_9 repSet_9 sizes_rep shapes_rep fits_rep zero_rep zt_rep built_rep Tryz.underlying45 blobPs_0 blobAt_0 blobSet_0 blobPs_1 blobAt_1 blobSet_1 blobPs_2 blobAt_2 blobSet_2 blobPs_3 blobAt_3 blobSet_3 sizes_blob shapes_blob fits_blob zero_blob zt_blob built_blob Tryz.underlying47 msgPs_0 msgAt_0 msgSet_0 msgPs_1 msgAt_1 msgSet_1 msgPs_2 msgAt_2 msgSet_2 msgPs_3 msgAt_3 msgSet_3 msgPs_4 msgAt_4 msgSet_4 msgPs_5 msgAt_5 msgSet_5 msgPs_6 msgAt_6 msgSet_6 msgPs_7 msgAt_7 msgSet_7 msgPs_8 msgAt_8 msgSet_8 msgPs_9 msgAt_9 msgSet_9 sizes_msg shapes_msg fits_msg zero_msg zt_msg built_msg Tryz.underlying49 at_Ps_0 at_At_0 at_Set_0 at_Ps_1 at_At_1 at_Set_1 sizes_at_ shapes_at_ fits_at_ zero_at_ zt_at_ built_at_ Tryz.underlying62
attribute [local go_sem] fits3 fits4 fits5 fits9 fits23 fits26 fits31 fits34 fits52 zt3 zero3 zt34 zero34 zt23 zero23 bin_sub_eql bin_pend_eql bin_pend_neq bin_blob_eql bin_dig23_eql bin_dig23_neq slice23
attribute [local go_sem ↓] blockQ_exit2
attribute [local simp] dig_ext
structure Rdr where
  s : List UInt8
  at_ : Int
  e : Int
def rdr0 : Rdr := ⟨[], 0, 0⟩
def rdrPs (x : Rdr) : List AV := [.str x.s, .int .i64 x.at_, .int .i64 x.e]
abbrev rdrV (x : Rdr) : AV := .agg (rdrPs x)
theorem rdrPs_0 {x : Rdr} : (rdrPs x)[0]? = some (.str x.s) := nr rfl
theorem rdrAt_0 {x : Rdr} {v : AV} : partIs Tryz.prog 133 (rdrPs x) 0 v = fits Tryz.prog 9 v := by rw [partIs_of (o := 0) (T := 9) (by kernel_rfl)]; simp [rdrPs, AV.sizes, AV.size]
theorem rdrSet_0 {x : Rdr} {y : List UInt8} : (rdrPs x).set 0 (.str y) = rdrPs { x with s := y } := nr rfl
theorem rdrPs_1 {x : Rdr} : (rdrPs x)[1]? = some (.int .i64 x.at_) := nr rfl
theorem rdrAt_1 {x : Rdr} {v : AV} : partIs Tryz.prog 133 (rdrPs x) 1 v = fits Tryz.prog 3 v := by rw [partIs_of (o := 1) (T := 3) (by kernel_rfl)]; simp [rdrPs, AV.sizes, AV.size]
theorem rdrSet_1 {x : Rdr} {y : Int} : (rdrPs x).set 1 (.int .i64 y) = rdrPs { x with at_ := y } := nr rfl
theorem rdrPs_2 {x : Rdr} : (rdrPs x)[2]? = some (.int .i64 x.e) := nr rfl
theorem rdrAt_2 {x : Rdr} {v : AV} : partIs Tryz.prog 133 (rdrPs x) 2 v = fits Tryz.prog 50 v := by rw [partIs_of (o := 2) (T := 50) (by kernel_rfl)]; simp [rdrPs, AV.sizes, AV.size]
theorem rdrSet_2 {x : Rdr} {y : Int} : (rdrPs x).set 2 (.int .i64 y) = rdrPs { x with e := y } := nr rfl
theorem sizes_rdr {x : Rdr} : AV.sizes (rdrPs x) = 3 := by simp [rdrPs, AV.sizes, AV.size]
theorem shapes_rdr {x : Rdr} : AV.shapes (rdrPs x) = [.leaf, .leaf, .leaf] := by simp [rdrPs, AV.shapes, AV.shape]
theorem fits_rdr {v : AV} : fits Tryz.prog 133 v = (v.isAgg = true ∧ v.size = 3) := fits_agg (by kernel_rfl) (by kernel_rfl)
theorem zero_rdr : zeroA Tryz.prog 12 133 = .agg (rdrPs rdr0) := by kernel_rfl
theorem zt_rdr : ZeroOf Tryz.prog 133 (.agg (rdrPs rdr0)) = True := eq_true ⟨_, _, rfl, rfl, rfl, rfl, rfl⟩
theorem built_rdr : Built Tryz.prog 133 = True := eq_true (by unfold Built; rw [Tryz.underlying133]; decide +kernel)
theorem strip_rdr {x : Rdr} : AV.strips (rdrPs x) = rdrPs x := by simp [rdrPs, AV.strips, AV.strip]
theorem noRef_rdr {x : Rdr} : AV.noRefs (rdrPs x) = true := by simp [rdrPs, AV.noRefs, AV.noRef]

attribute [local go_sem] rdrPs_0 rdrAt_0 rdrSet_0 rdrPs_1 rdrAt_1 rdrSet_1 rdrPs_2 rdrAt_2 rdrSet_2 sizes_rdr shapes_rdr fits_rdr zero_rdr zt_rdr built_rdr Tryz.underlying133 Tryz.underlying131 Tryz.underlying136

theorem prog_num {s : List UInt8} {i : Int} (h : (numR s i).2.2 = 0) : i < (numR s i).2.1 ∧ (numR s i).2.1 ≤ s.length := by
  unfold numR at h ⊢
  by_cases h1 : i < 0 ∨ (s.length : Int) < i
  · rw [if_pos h1] at h; simp at h
  · rw [if_neg h1] at h ⊢
    have := numP_prog (s := s) (q := i.toNat) (by omega) h
    omega
theorem prog_text {s : List UInt8} {i : Int} (h : (textR s i).2.2 = 0) : i < (textR s i).2.1 ∧ (textR s i).2.1 ≤ s.length := by
  unfold textR at h ⊢
  by_cases h1 : i < 0 ∨ (s.length : Int) < i
  · rw [if_pos h1] at h; simp at h
  · rw [if_neg h1] at h ⊢
    have := textP_prog (s := s) (q := i.toNat) (by omega) h
    omega
theorem readL_prog {α : Type} {one : Nat → α × Int × Int} {s : List UInt8} : ∀ (k p : Nat) (acc : List α), s.length - p ≤ k → p ≤ s.length → (readL one s p acc).2.2 = 0 → (p : Int) < (readL one s p acc).2.1 ∧ (readL one s p acc).2.1 ≤ s.length := by
  intro k
  induction k with
  | zero =>
    intro p acc hk hp h
    have : p = s.length := by omega
    rw [readL, if_pos this] at h; simp at h
  | succ k ih =>
    intro p acc hk hp h
    rw [readL] at h ⊢
    by_cases h1 : p = s.length
    · rw [if_pos h1] at h; simp at h
    · rw [if_neg h1] at h ⊢
      by_cases h2 : bAt s p = 41
      · rw [if_pos h2]; dsimp only; omega
      · rw [if_neg h2] at h ⊢
        by_cases h3 : 512 ≤ acc.length
        · rw [if_pos h3] at h; simp at h
        · rw [if_neg h3] at h ⊢
          by_cases h4 : (one p).2.2 ≠ 0
          · rw [if_pos h4] at h; exact absurd h h4
          · rw [if_neg h4] at h ⊢
            by_cases h5 : (p : Int) < (one p).2.1 ∧ (one p).2.1 ≤ s.length
            · rw [dif_pos h5] at h ⊢
              have := ih (one p).2.1.toNat _ (by omega) (by omega) h
              omega
            · rw [dif_neg h5] at h; simp at h
theorem readR_prog {α : Type} {one : Nat → α × Int × Int} {s : List UInt8} {i : Int} (h : (readR one s i).2.2 = 0) : i < (readR one s i).2.1 ∧ (readR one s i).2.1 ≤ s.length := by
  unfold readR at h ⊢
  by_cases h1 : i < 0 ∨ (s.length : Int) < i
  · rw [if_pos h1] at h; simp at h
  · rw [if_neg h1] at h ⊢
    by_cases h2 : i.toNat = s.length
    · rw [if_pos h2] at h; simp at h
    · rw [if_neg h2] at h ⊢
      by_cases h3 : bAt s i.toNat ≠ 40
      · rw [if_pos h3] at h; simp at h
      · rw [if_neg h3] at h ⊢
        have := readL_prog (one := one) _ (i.toNat + 1) [] (Nat.le_refl _) (by omega) h
        omega

def slV {α : Type} (f : α → AV) (l : List α) : AV := .slice (tk' l) (l.map f)
theorem tupL_slV {α : Type} {f : α → AV} {x : List α × Int × Int} : tupL f x = .tuple [slV f x.1, .int .i64 x.2.1, .int .i64 x.2.2] := by
  unfold tupL slV tk'
  split <;> simp_all
theorem set_set {s : AST} {j : Nat} {a b : AObj} : (s.set j a).set j b = s.set j b := by simp [AST.set]

/-- A reader in memory, and what else is known of memory. -/
structure RF (σ0 s : AST) (T : List (Nat × Nat)) (j : Nat) (r : Rdr) (F : List (Nat × AObj)) : Prop where
  x : Ext σ0 s
  t : s.toks = T
  jn : σ0.objs.length ≤ j
  o : s.objs[j]? = some (.cells (rdrV r))
  f : ∀ x ∈ F, x.1 ≠ j ∧ s.objs[x.1]? = some x.2
  p : r.e = 0 → 0 ≤ r.at_ ∧ r.at_ ≤ r.s.length
  l : r.s.length ≤ 9223372036854775807
section
variable {σ0 s : AST} {T : List (Nat × Nat)} {j : Nat} {r : Rdr} {F G : List (Nat × AObj)}
theorem RF.step {a e : Int} (h : RF σ0 s T j r F) (hp : e = 0 → r.at_ < a ∧ a ≤ r.s.length ∧ 0 ≤ r.at_) : RF σ0 (s.set j (.cells (rdrV { r with at_ := a, e := e }))) T j { r with at_ := a, e := e } F := by
  have hj := (List.getElem?_eq_some_iff.1 h.o).1
  refine ⟨h.x.set h.jn, h.t, h.jn, ?_, fun x hx => ⟨(h.f x hx).1, ?_⟩, fun h0 => ?_, h.l⟩
  · simp only [AST.set]; rw [List.getElem?_set_self hj]
  · simp only [AST.set]; rw [List.getElem?_set_ne (fun e => (h.f x hx).1 e.symm)]; exact (h.f x hx).2
  · have := hp h0; dsimp only at *; omega
theorem RF.err {e : Int} (h : RF σ0 s T j r F) (he : e ≠ 0) : RF σ0 (s.set j (.cells (rdrV { r with e := e }))) T j { r with e := e } F := h.step (a := r.at_) (fun h0 => absurd h0 he)
theorem RF.mono (h : RF σ0 s T j r F) (hg : ∀ x ∈ G, x ∈ F) : RF σ0 s T j r G := ⟨h.x, h.t, h.jn, h.o, fun x hx => h.f x (hg x hx), h.p, h.l⟩
theorem RF.push {o : AObj} (h : RF σ0 s T j r F) : RF σ0 (s.app [o]) T j r ((s.objs.length, o) :: F) := by
  have hj : j < s.objs.length := (List.getElem?_eq_some_iff.1 h.o).1
  refine ⟨h.x.trans (Ext.app _ _), h.t, h.jn, objs_known_app h.o _, fun x hx => ?_, h.p, h.l⟩
  rcases List.mem_cons.1 hx with rfl | hx
  · exact ⟨by dsimp only; omega, objs_app0⟩
  · exact ⟨(h.f x hx).1, objs_known_app (h.f x hx).2 _⟩
theorem RF.app {l : List AObj} (h : RF σ0 s T j r F) : RF σ0 (s.app l) T j r F :=
  ⟨h.x.trans (Ext.app _ _), h.t, h.jn, objs_known_app h.o _, fun x hx => ⟨(h.f x hx).1, objs_known_app (h.f x hx).2 _⟩, h.p, h.l⟩
theorem RF.cell {k : Nat} {v : AV} (h : RF σ0 s T j r F) (hm : (k, AObj.cells v) ∈ F) (p : List Nat) : cellAt s k p = v.at p := cellAt_known (h.f _ hm).2 p
/-- The first of the known objects is put anew. -/
theorem RF.upd {k : Nat} {o o' : AObj} (h : RF σ0 s T j r ((k, o) :: F)) (hk : σ0.objs.length ≤ k) (hF : ∀ x ∈ F, x.1 ≠ k) : RF σ0 (s.set k o') T j r ((k, o') :: F) := by
  have h1 := h.f (k, o) (List.mem_cons_self ..)
  have hkl := (List.getElem?_eq_some_iff.1 h1.2).1
  refine ⟨h.x.set hk, h.t, h.jn, ?_, fun x hx => ?_, h.p, h.l⟩
  · simp only [AST.set]; rw [List.getElem?_set_ne h1.1]; exact h.o
  · rcases List.mem_cons.1 hx with rfl | hx
    · exact ⟨h1.1, by simp only [AST.set]; rw [List.getElem?_set_self hkl]⟩
    · have h2 := h.f x (List.mem_cons_of_mem _ hx)
      exact ⟨h2.1, by simp only [AST.set]; rw [List.getElem?_set_ne (fun e => hF x hx e.symm)]; exact h2.2⟩
end
def Rdr.int (r : Rdr) : Int × Rdr := if r.e ≠ 0 then (0, r) else ((numR r.s r.at_).1, { r with at_ := (numR r.s r.at_).2.1, e := (numR r.s r.at_).2.2 })
def Rdr.text (r : Rdr) : List UInt8 × Rdr := if r.e ≠ 0 then ([], r) else ((textR r.s r.at_).1, { r with at_ := (textR r.s r.at_).2.1, e := (textR r.s r.at_).2.2 })
abbrev intsR (s : List UInt8) (i : Int) : List Int × Int × Int := readR (numP s) s i
def Rdr.ints (r : Rdr) : List Int × Rdr := if r.e ≠ 0 then ([], r) else ((intsR r.s r.at_).1, { r with at_ := (intsR r.s r.at_).2.1, e := (intsR r.s r.at_).2.2 })
theorem withInt_c {r : Rdr} {T : List (Nat × Nat)} {j : Nat} {F : List (Nat × AObj)} {σ0 σ : AST} {K : AV → AST → Prop} (hR : RF σ0 σ T j r F) (hK : ∀ s, RF σ0 s T j r.int.2 F → K (.int .i64 r.int.1) s) : TCalls Tryz.prog 85 [.ptr (some (j, [])), .fn (.func 86) [] []] σ K := by
  refine tcalls_walk Tryz.f85 _ [.tmp 4] Tryz.func85 rfl rfl rfl mixed (Nat.le_of_ble_eq_true rfl) rfl fun hlen => ?_
  have c := cellAt_known hR.o
  have ho := hR.o
  have hj := (List.getElem?_eq_some_iff.1 hR.o).1
  have hl := hR.l
  have s1 : ∀ o, (σ.set j o).objs[j]? = some o := fun o => by simp only [AST.set]; rw [List.getElem?_set_self hj]
  have s2 : ∀ v p, cellAt (σ.set j (.cells v)) j p = v.at p := fun v p => cellAt_known (s1 _) p
  by_cases he : r.e = 0
  · have hp := hR.p he
    repeat' (first | (simp -dsimp only [↓reduceIte, go_sem, c, he, ho, s1, s2, tup3, tupT]) | (refine arr_intro fun _ => ?_) | (refine later_intro ⟨keeps_nil, ?_⟩) | (refine later_intro ⟨keeps_refl, ?_⟩) | (with_reducible refine keeps_go ?_ ?_; focus (first | (simp [keeps_cons, keeps_none, objs_app, objs_app0]; done) | (simp only [keeps_cons, keeps_none, objs_app0, objs_app, and_true]; first | rfl | exact ⟨rfl, rfl⟩ | exact ⟨rfl, rfl, rfl⟩))) | (with_reducible refine (And.intro (a := keeps _ _ _) ?_ ?_); focus (first | (simp [keeps_cons, keeps_none, objs_app, objs_app0]; done) | (simp only [keeps_cons, keeps_none, objs_app0, objs_app, and_true]; first | rfl | exact ⟨rfl, rfl⟩ | exact ⟨rfl, rfl, rfl⟩))) | (refine both_ways ?_ ?_) | (rw [wrap_i64 (by omega) (by omega)]) | (refine guardV_split (fun h => ?_) (fun h => ?_) <;> (try rw [h]) <;> (try simp at h) <;> (try (exfalso; omega))) | (with_reducible refine awp_drawT (id := 4) (.op 0 2 (.op 1 2 (.op 2 2 (.op 3 2 (.op 4 2 (.op 5 2 (.op 6 2 (.op 7 2 (.op 8 2 (.op 9 1 (.op 10 2 (.op 11 2 (.op 12 2 (.op 13 2 (.op 14 2 (.op 15 2 (.op 16 2 .nil))))))))))))))))) (by kernel_rfl) ?_) | (refine L01.readNumber_c (by omega) (by omega) ?_) | (rw [tupL_slV]))
    have e : r.int = ((numR r.s r.at_).1, { r with at_ := (numR r.s r.at_).2.1, e := (numR r.s r.at_).2.2 }) := by rw [Rdr.int, if_neg (by simp [he])]
    rw [e] at hK
    refine hK _ ?_
    rw [set_set]
    exact hR.step fun h0 => by have := prog_num h0; omega
  · repeat' (first | (simp -dsimp only [↓reduceIte, go_sem, c, he, ho]) | (refine arr_intro fun _ => ?_) | (refine later_intro ⟨keeps_nil, ?_⟩) | (refine later_intro ⟨keeps_refl, ?_⟩) | (with_reducible refine keeps_go ?_ ?_; focus (first | (simp [keeps_cons, keeps_none, objs_app, objs_app0]; done) | (simp only [keeps_cons, keeps_none, objs_app0, objs_app, and_true]; first | rfl | exact ⟨rfl, rfl⟩ | exact ⟨rfl, rfl, rfl⟩))) | (with_reducible refine (And.intro (a := keeps _ _ _) ?_ ?_); focus (first | (simp [keeps_cons, keeps_none, objs_app, objs_app0]; done) | (simp only [keeps_cons, keeps_none, objs_app0, objs_app, and_true]; first | rfl | exact ⟨rfl, rfl⟩ | exact ⟨rfl, rfl, rfl⟩))) | (refine both_ways ?_ ?_) | (rw [wrap_i64 (by omega) (by omega)]) | (refine guardV_split (fun h => ?_) (fun h => ?_) <;> (try rw [h]) <;> (try simp at h) <;> (try (exfalso; omega))))
    have e : r.int = (0, r) := by rw [Rdr.int, if_pos he]
    rw [e] at hK
    exact hK _ hR
theorem withText_c {r : Rdr} {T : List (Nat × Nat)} {j : Nat} {F : List (Nat × AObj)} {σ0 σ : AST} {K : AV → AST → Prop} (hR : RF σ0 σ T j r F) (hK : ∀ s, RF σ0 s T j r.text.2 F → K (.str r.text.1) s) : TCalls Tryz.prog 99 [.ptr (some (j, [])), .fn (.func 100) [] []] σ K := by
  refine tcalls_walk Tryz.f99 _ [.tmp 4] Tryz.func99 rfl rfl rfl mixed (Nat.le_of_ble_eq_true rfl) rfl fun hlen => ?_
  have c := cellAt_known hR.o
  have ho := hR.o
  have hj := (List.getElem?_eq_some_iff.1 hR.o).1
  have hl := hR.l
  have s1 : ∀ o, (σ.set j o).objs[j]? = some o := fun o => by simp only [AST.set]; rw [List.getElem?_set_self hj]
  have s2 : ∀ v p, cellAt (σ.set j (.cells v)) j p = v.at p := fun v p => cellAt_known (s1 _) p
  by_cases he : r.e = 0
  · have hp := hR.p he
    repeat' (first | (simp -dsimp only [↓reduceIte, go_sem, c, he, ho, s1, s2, tup3, tupT]) | (refine arr_intro fun _ => ?_) | (refine later_intro ⟨keeps_nil, ?_⟩) | (refine later_intro ⟨keeps_refl, ?_⟩) | (with_reducible refine keeps_go ?_ ?_; focus (first | (simp [keeps_cons, keeps_none, objs_app, objs_app0]; done) | (simp only [keeps_cons, keeps_none, objs_app0, objs_app, and_true]; first | rfl | exact ⟨rfl, rfl⟩ | exact ⟨rfl, rfl, rfl⟩))) | (with_reducible refine (And.intro (a := keeps _ _ _) ?_ ?_); focus (first | (simp [keeps_cons, keeps_none, objs_app, objs_app0]; done) | (simp only [keeps_cons, keeps_none, objs_app0, objs_app, and_true]; first | rfl | exact ⟨rfl, rfl⟩ | exact ⟨rfl, rfl, rfl⟩))) | (refine both_ways ?_ ?_) | (rw [wrap_i64 (by omega) (by omega)]) | (refine guardV_split (fun h => ?_) (fun h => ?_) <;> (try rw [h]) <;> (try simp at h) <;> (try (exfalso; omega))) | (with_reducible refine awp_drawT (id := 4) (.op 0 2 (.op 1 2 (.op 2 2 (.op 3 2 (.op 4 2 (.op 5 2 (.op 6 2 (.op 7 2 (.op 8 2 (.op 9 1 (.op 10 2 (.op 11 2 (.op 12 2 (.op 13 2 (.op 14 2 (.op 15 2 (.op 16 2 .nil))))))))))))))))) (by kernel_rfl) ?_) | (refine L01.readText_c (by omega) (by omega) ?_) | (rw [tupL_slV]))
    have e : r.text = ((textR r.s r.at_).1, { r with at_ := (textR r.s r.at_).2.1, e := (textR r.s r.at_).2.2 }) := by rw [Rdr.text, if_neg (by simp [he])]
    rw [e] at hK
    refine hK _ ?_
    rw [set_set]
    exact hR.step fun h0 => by have := prog_text h0; omega
  · repeat' (first | (simp -dsimp only [↓reduceIte, go_sem, c, he, ho]) | (refine arr_intro fun _ => ?_) | (refine later_intro ⟨keeps_nil, ?_⟩) | (refine later_intro ⟨keeps_refl, ?_⟩) | (with_reducible refine keeps_go ?_ ?_; focus (first | (simp [keeps_cons, keeps_none, objs_app, objs_app0]; done) | (simp only [keeps_cons, keeps_none, objs_app0, objs_app, and_true]; first | rfl | exact ⟨rfl, rfl⟩ | exact ⟨rfl, rfl, rfl⟩))) | (with_reducible refine (And.intro (a := keeps _ _ _) ?_ ?_); focus (first | (simp [keeps_cons, keeps_none, objs_app, objs_app0]; done) | (simp only [keeps_cons, keeps_none, objs_app0, objs_app, and_true]; first | rfl | exact ⟨rfl, rfl⟩ | exact ⟨rfl, rfl, rfl⟩))) | (refine both_ways ?_ ?_) | (rw [wrap_i64 (by omega) (by omega)]) | (refine guardV_split (fun h => ?_) (fun h => ?_) <;> (try rw [h]) <;> (try simp at h) <;> (try (exfalso; omega))))
    have e : r.text = ([], r) := by rw [Rdr.text, if_pos he]
    rw [e] at hK
    exact hK _ hR
theorem withInts_c {r : Rdr} {T : List (Nat × Nat)} {j : Nat} {F : List (Nat × AObj)} {σ0 σ : AST} {K : AV → AST → Prop} (hR : RF σ0 σ T j r F) (hK : ∀ s, RF σ0 s T j r.ints.2 F → K (slV (AV.int .i64) r.ints.1) s) : TCalls Tryz.prog 90 [.ptr (some (j, [])), .fn (.func 91) [] []] σ K := by
  refine tcalls_walk Tryz.f90 _ [.tmp 4] Tryz.func90 rfl rfl rfl mixed (Nat.le_of_ble_eq_true rfl) rfl fun hlen => ?_
  have c := cellAt_known hR.o
  have ho := hR.o
  have hj := (List.getElem?_eq_some_iff.1 hR.o).1
  have hl := hR.l
  have s1 : ∀ o, (σ.set j o).objs[j]? = some o := fun o => by simp only [AST.set]; rw [List.getElem?_set_self hj]
  have s2 : ∀ v p, cellAt (σ.set j (.cells v)) j p = v.at p := fun v p => cellAt_known (s1 _) p
  by_cases he : r.e = 0
  · have hp := hR.p he
    repeat' (first | (simp -dsimp only [↓reduceIte, go_sem, c, he, ho, s1, s2, tup3, tupT]) | (refine arr_intro fun _ => ?_) | (refine later_intro ⟨keeps_nil, ?_⟩) | (refine later_intro ⟨keeps_refl, ?_⟩) | (with_reducible refine keeps_go ?_ ?_; focus (first | (simp [keeps_cons, keeps_none, objs_app, objs_app0]; done) | (simp only [keeps_cons, keeps_none, objs_app0, objs_app, and_true]; first | rfl | exact ⟨rfl, rfl⟩ | exact ⟨rfl, rfl, rfl⟩))) | (with_reducible refine (And.intro (a := keeps _ _ _) ?_ ?_); focus (first | (simp [keeps_cons, keeps_none, objs_app, objs_app0]; done) | (simp only [keeps_cons, keeps_none, objs_app0, objs_app, and_true]; first | rfl | exact ⟨rfl, rfl⟩ | exact ⟨rfl, rfl, rfl⟩))) | (refine both_ways ?_ ?_) | (rw [wrap_i64 (by omega) (by omega)]) | (refine guardV_split (fun h => ?_) (fun h => ?_) <;> (try rw [h]) <;> (try simp at h) <;> (try (exfalso; omega))) | (with_reducible refine awp_drawT (id := 4) (.op 0 2 (.op 1 2 (.op 2 2 (.op 3 2 (.op 4 2 (.op 5 2 (.op 6 2 (.op 7 2 (.op 8 2 (.op 9 1 (.op 10 2 (.op 11 2 (.op 12 2 (.op 13 2 (.op 14 2 (.op 15 2 (.op 16 2 .nil))))))))))))))))) (by kernel_rfl) ?_) | (refine L01.readNumbers_c (by omega) (by omega) ?_) | (rw [tupL_slV]))
    have e : r.ints = ((intsR r.s r.at_).1, { r with at_ := (intsR r.s r.at_).2.1, e := (intsR r.s r.at_).2.2 }) := by rw [Rdr.ints, if_neg (by simp [he])]
    rw [e] at hK
    refine hK _ ?_
    rw [set_set]
    exact hR.step fun h0 => by have := readR_prog h0; omega
  · repeat' (first | (simp -dsimp only [↓reduceIte, go_sem, c, he, ho]) | (refine arr_intro fun _ => ?_) | (refine later_intro ⟨keeps_nil, ?_⟩) | (refine later_intro ⟨keeps_refl, ?_⟩) | (with_reducible refine keeps_go ?_ ?_; focus (first | (simp [keeps_cons, keeps_none, objs_app, objs_app0]; done) | (simp only [keeps_cons, keeps_none, objs_app0, objs_app, and_true]; first | rfl | exact ⟨rfl, rfl⟩ | exact ⟨rfl, rfl, rfl⟩))) | (with_reducible refine (And.intro (a := keeps _ _ _) ?_ ?_); focus (first | (simp [keeps_cons, keeps_none, objs_app, objs_app0]; done) | (simp only [keeps_cons, keeps_none, objs_app0, objs_app, and_true]; first | rfl | exact ⟨rfl, rfl⟩ | exact ⟨rfl, rfl, rfl⟩))) | (refine both_ways ?_ ?_) | (rw [wrap_i64 (by omega) (by omega)]) | (refine guardV_split (fun h => ?_) (fun h => ?_) <;> (try rw [h]) <;> (try simp at h) <;> (try (exfalso; omega))))
    have e : r.ints = ([], r) := by rw [Rdr.ints, if_pos he]
    rw [e] at hK
    exact hK _ hR
theorem int_c {r : Rdr} {T : List (Nat × Nat)} {j : Nat} {F : List (Nat × AObj)} {σ0 σ : AST} {K : AV → AST → Prop} (h : RF σ0 σ T j r F) (hK : ∀ s, RF σ0 s T j r.int.2 F → K (.int .i64 r.int.1) s) : TCalls Tryz.prog 67 [.ptr (some (j, []))] σ K := by
  refine tcalls_walk Tryz.f67 _ [.tmp 2] Tryz.func67 rfl rfl rfl mixed (Nat.le_of_ble_eq_true rfl) rfl fun hlen => ?_
  simp -dsimp only [↓reduceIte, go_sem]
  refine withInt_c h fun s h => ?_
  repeat' (first | (simp -dsimp only [↓reduceIte, go_sem]) | (refine arr_intro fun _ => ?_) | (rw [wrap_i64 (by omega) (by omega)]) | (refine guardV_split (fun h => ?_) (fun h => ?_) <;> (try rw [h]) <;> (try simp at h) <;> (try (exfalso; omega))))
  exact hK s h
theorem rtext_c {r : Rdr} {T : List (Nat × Nat)} {j : Nat} {F : List (Nat × AObj)} {σ0 σ : AST} {K : AV → AST → Prop} (h : RF σ0 σ T j r F) (hK : ∀ s, RF σ0 s T j r.text.2 F → K (.str r.text.1) s) : TCalls Tryz.prog 87 [.ptr (some (j, []))] σ K := by
  refine tcalls_walk Tryz.f87 _ [.tmp 2] Tryz.func87 rfl rfl rfl mixed (Nat.le_of_ble_eq_true rfl) rfl fun hlen => ?_
  simp -dsimp only [↓reduceIte, go_sem]
  refine withText_c h fun s h => ?_
  repeat' (first | (simp -dsimp only [↓reduceIte, go_sem]) | (refine arr_intro fun _ => ?_) | (rw [wrap_i64 (by omega) (by omega)]) | (refine guardV_split (fun h => ?_) (fun h => ?_) <;> (try rw [h]) <;> (try simp at h) <;> (try (exfalso; omega))))
  exact hK s h
end Go.Aff.L10

