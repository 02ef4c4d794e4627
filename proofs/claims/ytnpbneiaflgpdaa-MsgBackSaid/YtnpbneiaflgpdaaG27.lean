import Derived.Test.YtnpbneiaflgpdaaG26
import Derived.Test.YtnpbneiaflgpdaaG18

set_option linter.unusedSimpArgs false
set_option linter.unusedVariables false

/- Layer 10, walked: Put. -/
namespace Go.Aff.L10
open Go.Proofs Go.Aff Go.Aff.L01 Classical
set_option linter.unusedVariables false
set_option linter.unusedSimpArgs false
set_option maxRecDepth 20000
attribute [local go_sem] push_app app_app length_app cellAt_app cellAt_app0 set_app set_app0 objs_app objs_app0 List.cons_append List.nil_append List.length_cons List.length_nil List.getElem?_cons_zero List.getElem?_cons_succ List.set_cons_zero List.set_cons_succ List.length_map
attribute [-go_sem] cellAt_new
attribute [-simp] List.length_flatMap
attribute [local go_sem] Try.underlying3 Try.underlying4 Try.underlying5 Try.underlying9 Try.underlying22 Try.underlying23 Try.underlying26 Try.underlying31 Try.underlying34 Try.underlying52 subPs_0 subAt_0 subSet_0 subPs_1 subAt_1 subSet_1 subPs_2 subAt_2 subSet_2 subPs_3 subAt_3 subSet_3 subPs_4 subAt_4 subSet_4 subPs_5 subAt_5 subSet_5 sizes_sub shapes_sub fits_sub zero_sub zt_sub built_sub Try.underlying25 pendPs_0 pendAt_0 pendSet_0 pendPs_1 pendAt_1 pendSet_1 pendPs_2 pendAt_2 pendSet_2 pendPs_3 pendAt_3 pendSet_3 pendPs_4 pendAt_4 pendSet_4 pendPs_5 pendAt_5 pendSet_5 sizes_pend shapes_pend fits_pend zero_pend zt_pend built_pend Try.underlying98 repPs_0 repAt_0 repSet_0 repPs_1 repAt_1 repSet_1 repPs_2 repAt_2 repSet_2 repPs_3 repAt_3 repSet_3 repPs_4 repAt_4 repSet_4 repPs_5 repAt_5 repSet_5 repPs_6 repAt_6 repSet_6 repPs_7 repAt_7 repSet_7 repPs_8 repAt_8 repSet_8 repPs_9 repAt_9 repSet_9 sizes_rep shapes_rep fits_rep zero_rep zt_rep built_rep Try.underlying28 blobPs_0 blobAt_0 blobSet_0 blobPs_1 blobAt_1 blobSet_1 blobPs_2 blobAt_2 blobSet_2 blobPs_3 blobAt_3 blobSet_3 sizes_blob shapes_blob fits_blob zero_blob zt_blob built_blob Try.underlying30 msgPs_0 msgAt_0 msgSet_0 msgPs_1 msgAt_1 msgSet_1 msgPs_2 msgAt_2 msgSet_2 msgPs_3 msgAt_3 msgSet_3 msgPs_4 msgAt_4 msgSet_4 msgPs_5 msgAt_5 msgSet_5 msgPs_6 msgAt_6 msgSet_6 msgPs_7 msgAt_7 msgSet_7 msgPs_8 msgAt_8 msgSet_8 msgPs_9 msgAt_9 msgSet_9 sizes_msg shapes_msg fits_msg zero_msg zt_msg built_msg Try.underlying33 at_Ps_0 at_At_0 at_Set_0 at_Ps_1 at_At_1 at_Set_1 sizes_at_ shapes_at_ fits_at_ zero_at_ zt_at_ built_at_ Try.underlying77
attribute [local go_sem] fits3 fits4 fits5 fits9 fits23 fits26 fits31 fits34 fits52 zt3 zero3 zt34 zero34 zt23 zero23 bin_sub_eql bin_pend_eql bin_pend_neq bin_blob_eql bin_dig23_eql bin_dig23_neq slice23
attribute [local go_sem ↓] blockQ_exit2
attribute [local simp] dig_ext
attribute [local go_sem] wAt zero54 zt54 built54 fits54 Try.underlying54 Try.underlying51 Try.underlying96

def subB (x : Sub) : List UInt8 := [x.num, x.kind, x.target].flatMap numS ++ textS x.value ++ [x.asked, x.data].flatMap digS
def blobB (x : Blob) : List UInt8 := [x.owner, x.num].flatMap numS ++ textS x.cipher ++ [x.tag].flatMap digS
def Msg.rest (m : Msg) : List UInt8 :=
  if m.kind = 1 then subB m.sub
  else if m.kind = 2 then ansB m.rep
  else if m.kind = 3 then textS m.view ++ [m.tag].flatMap digS
  else if m.kind = 4 ∨ m.kind = 6 then blobB m.blob
  else if m.kind = 5 ∨ m.kind = 7 ∨ m.kind = 8 then laidAll numS m.nums
  else if m.kind = 10 then [m.by_].flatMap numS ++ textS m.view ++ [m.tag, m.own].flatMap digS
  else if m.kind = 11 then [m.own].flatMap digS else []
def Msg.bytes (m : Msg) : List UInt8 := [m.kind].flatMap numS ++ (if m.kind = 2 ∨ m.kind = 4 ∨ m.kind = 6 then [] else [m.client].flatMap numS) ++ m.rest

theorem Msg.Ok.kinds {m : Msg} (h : m.Ok) : (m.kind = 1 ∧ m.sub.Ok) ∨ (m.kind = 2 ∧ m.rep.Ok) ∨ (m.kind = 3 ∧ m.view ≠ [] ∧ ViewOk 8 m.view) ∨ (m.kind = 4 ∧ m.blob.Ok) ∨ (m.kind = 5 ∧ NumsOk m.nums) ∨ (m.kind = 6 ∧ m.blob.Ok) ∨ (m.kind = 7 ∧ NumsOk m.nums) ∨ (m.kind = 8 ∧ NumsOk m.nums) ∨ m.kind = 9 ∨ (m.kind = 10 ∧ In 0 7 m.by_ ∧ m.view ≠ [] ∧ ViewOk 8 m.view) ∨ m.kind = 11 := by
  have h := h.1
  unfold Msg.FieldsOk at h
  split at h
  · simp_all
  split at h
  · simp_all
  split at h
  · simp_all
  split at h
  · rename_i hk; rcases hk with hk | hk <;> simp_all
  split at h
  · rename_i hk; rcases hk with hk | hk | hk <;> simp_all
  split at h
  · simp_all
  rcases h with h | h <;> simp_all
theorem NumsOk.in_ {l : List Int} (h : NumsOk l) : InI l := fun n hn => by
  obtain ⟨i, hi, rfl⟩ := List.getElem_of_mem hn
  have := (h.1 i _ (List.getElem?_eq_getElem hi)).1
  simp only [In] at this
  omega

theorem put_c {m : Msg} {t u : Tk} {σ : AST} {K : AV → AST → Prop} (hK : K (if m.Ok then .tuple [.str m.bytes, .int .i64 0] else .tuple [.str [], .int .i64 2]) σ) : TCalls Try.prog 9 [msgV t u m] σ K := by
  refine TCalls.drop ?_
  refine tcalls_walk Try.f9 _ [.tmp 2, .tmp 3] Try.func9 rfl rfl rfl mixed (Nat.le_of_ble_eq_true rfl) rfl fun hlen => ?_
  simp -dsimp only [↓reduceIte, go_sem]
  refine right_c ?_
  by_cases hok : m.Ok
  · rw [if_pos hok] at hK
    have hkinds := hok.kinds
    obtain ⟨hf, hc, ho⟩ := hok
    have hok : m.Ok := ⟨hf, hc, ho⟩
    simp only [In] at hc
    repeat' (first | (simp -dsimp only [↓reduceIte, go_sem, hok]) | (refine arr_intro fun _ => ?_) | (refine later_intro ⟨keeps_nil, ?_⟩) | (refine later_intro ⟨keeps_refl, ?_⟩) | (with_reducible refine keeps_go (by simp [keeps_cons, keeps_none, objs_app, objs_app0] <;> fail) ?_) | (refine both_ways ?_ ?_) | (rw [wrap_i64 (by omega) (by omega)]) | (refine guardV_split (fun h => ?_) (fun h => ?_) <;> (try rw [h]) <;> (try simp at h) <;> (try (exfalso; omega))) | (refine bI1 ?_))
    have h : WF σ (σ.app [.cells (msgV t u m), .cells (.agg [.slice .full []])]) (σ.objs.length + 1) [] [(σ.objs.length, .cells (msgV t u m))] := by
      refine ⟨Ext.app _ _, by omega, ⟨.full, .inl rfl, trivial, ?_⟩, ?_⟩
      · simp [AST.app, u8s]
      · simp [AST.app]
    generalize hk : σ.objs.length = k at h
    generalize hj : k + 1 = j at h
    have hk1 : 1 ≤ m.kind ∧ m.kind ≤ 11 := by omega
    refine wInts_c 1 (l := [m.kind]) (by (intro n hn; simp at hn; omega)) (by simp) (by omega) (by simp) h fun s h b => ?_
    have c := h.cell (k := k) (List.mem_cons_self ..)
    simp only [List.nil_append] at h b
    have b0 : ([m.kind].flatMap numS).length ≤ 22 := by simpa using b
    rcases hkinds with ⟨hq, hs⟩ | ⟨hq, hs⟩ | ⟨hq, hs⟩ | ⟨hq, hs⟩ | ⟨hq, hs⟩ | ⟨hq, hs⟩ | ⟨hq, hs⟩ | ⟨hq, hs⟩ | hq | ⟨hq, hs⟩ | hq
    · obtain ⟨o1, o2, o3, o4⟩ := hs
      simp only [In] at o1 o2 o3
      repeat' (first | (simp -dsimp only [↓reduceIte, go_sem, c, hq, hj, hk]) | (refine arr_intro fun _ => ?_) | (refine later_intro ⟨keeps_nil, ?_⟩) | (refine later_intro ⟨keeps_refl, ?_⟩) | (with_reducible refine keeps_go (by simp [keeps_cons, keeps_none, objs_app, objs_app0] <;> fail) ?_) | (refine both_ways ?_ ?_) | (rw [wrap_i64 (by omega) (by omega)]) | (refine guardV_split (fun h => ?_) (fun h => ?_) <;> (try rw [h]) <;> (try simp at h) <;> (try (exfalso; omega))) | (refine bI1 ?_) | (refine bI2 ?_) | (refine bI3 ?_) | (refine bI4 ?_) | (refine bD1 ?_) | (refine bD2 ?_))
      refine wInts_c 1 (l := [m.client]) (by (intro n hn; simp at hn; omega)) (by simp) (by omega) (by omega) h fun s h b => ?_
      have c := h.cell (k := k) (List.mem_cons_self ..)
      repeat' (first | (simp -dsimp only [↓reduceIte, go_sem, c, hq, hj, hk]) | (refine arr_intro fun _ => ?_) | (refine later_intro ⟨keeps_nil, ?_⟩) | (refine later_intro ⟨keeps_refl, ?_⟩) | (with_reducible refine keeps_go (by simp [keeps_cons, keeps_none, objs_app, objs_app0] <;> fail) ?_) | (refine both_ways ?_ ?_) | (rw [wrap_i64 (by omega) (by omega)]) | (refine guardV_split (fun h => ?_) (fun h => ?_) <;> (try rw [h]) <;> (try simp at h) <;> (try (exfalso; omega))) | (refine bI1 ?_) | (refine bI2 ?_) | (refine bI3 ?_) | (refine bI4 ?_) | (refine bD1 ?_) | (refine bD2 ?_))
      refine wInts_c 3 (l := [m.sub.num, m.sub.kind, m.sub.target]) (by (intro n hn; simp at hn; omega)) (by simp) (by omega) (by omega) h fun s h b => ?_
      have c := h.cell (k := k) (List.mem_cons_self ..)
      repeat' (first | (simp -dsimp only [↓reduceIte, go_sem, c, hq, hj, hk]) | (refine arr_intro fun _ => ?_) | (refine later_intro ⟨keeps_nil, ?_⟩) | (refine later_intro ⟨keeps_refl, ?_⟩) | (with_reducible refine keeps_go (by simp [keeps_cons, keeps_none, objs_app, objs_app0] <;> fail) ?_) | (refine both_ways ?_ ?_) | (rw [wrap_i64 (by omega) (by omega)]) | (refine guardV_split (fun h => ?_) (fun h => ?_) <;> (try rw [h]) <;> (try simp at h) <;> (try (exfalso; omega))) | (refine bI1 ?_) | (refine bI2 ?_) | (refine bI3 ?_) | (refine bI4 ?_) | (refine bD1 ?_) | (refine bD2 ?_))
      refine wText_c 256 (by omega) (by omega) (by omega) h fun s h b => ?_
      have c := h.cell (k := k) (List.mem_cons_self ..)
      repeat' (first | (simp -dsimp only [↓reduceIte, go_sem, c, hq, hj, hk]) | (refine arr_intro fun _ => ?_) | (refine later_intro ⟨keeps_nil, ?_⟩) | (refine later_intro ⟨keeps_refl, ?_⟩) | (with_reducible refine keeps_go (by simp [keeps_cons, keeps_none, objs_app, objs_app0] <;> fail) ?_) | (refine both_ways ?_ ?_) | (rw [wrap_i64 (by omega) (by omega)]) | (refine guardV_split (fun h => ?_) (fun h => ?_) <;> (try rw [h]) <;> (try simp at h) <;> (try (exfalso; omega))) | (refine bI1 ?_) | (refine bI2 ?_) | (refine bI3 ?_) | (refine bI4 ?_) | (refine bD1 ?_) | (refine bD2 ?_))
      refine wDigs_c 2 (l := [m.sub.asked, m.sub.data]) (by simp) (by omega) (by omega) h fun s h b => ?_
      have c := h.cell (k := k) (List.mem_cons_self ..)
      repeat' (first | (simp -dsimp only [↓reduceIte, go_sem, c, hq, hj, hk]) | (refine arr_intro fun _ => ?_) | (refine later_intro ⟨keeps_nil, ?_⟩) | (refine later_intro ⟨keeps_refl, ?_⟩) | (with_reducible refine keeps_go (by simp [keeps_cons, keeps_none, objs_app, objs_app0] <;> fail) ?_) | (refine both_ways ?_ ?_) | (rw [wrap_i64 (by omega) (by omega)]) | (refine guardV_split (fun h => ?_) (fun h => ?_) <;> (try rw [h]) <;> (try simp at h) <;> (try (exfalso; omega))) | (refine bI1 ?_) | (refine bI2 ?_) | (refine bI3 ?_) | (refine bI4 ?_) | (refine bD1 ?_) | (refine bD2 ?_))
      obtain ⟨tb, w1, w2, w3⟩ := h.w
      have c := cellAt_known w3
      repeat' (first | (simp -dsimp only [↓reduceIte, go_sem, c, hq, hj]) | (refine arr_intro fun _ => ?_) | (refine later_intro ⟨keeps_nil, ?_⟩) | (refine later_intro ⟨keeps_refl, ?_⟩) | (with_reducible refine keeps_go (by simp [keeps_cons, keeps_none, objs_app, objs_app0] <;> fail) ?_) | (refine both_ways ?_ ?_) | (rw [wrap_i64 (by omega) (by omega)]) | (refine guardV_split (fun h => ?_) (fun h => ?_) <;> (try rw [h]) <;> (try simp at h) <;> (try (exfalso; omega))))
      refine ⟨h.x, rfl, ?_⟩
      simpa [AV.strip, AV.strips, Msg.bytes, Msg.rest, hq, subB, blobB] using hK
    · repeat' (first | (simp -dsimp only [↓reduceIte, go_sem, c, hq, hj, hk]) | (refine arr_intro fun _ => ?_) | (refine later_intro ⟨keeps_nil, ?_⟩) | (refine later_intro ⟨keeps_refl, ?_⟩) | (with_reducible refine keeps_go (by simp [keeps_cons, keeps_none, objs_app, objs_app0] <;> fail) ?_) | (refine both_ways ?_ ?_) | (rw [wrap_i64 (by omega) (by omega)]) | (refine guardV_split (fun h => ?_) (fun h => ?_) <;> (try rw [h]) <;> (try simp at h) <;> (try (exfalso; omega))) | (refine bI1 ?_))
      refine wAns_c hs (by omega) h fun s h b => ?_
      obtain ⟨tb, w1, w2, w3⟩ := h.w
      have c := cellAt_known w3
      repeat' (first | (simp -dsimp only [↓reduceIte, go_sem, c, hq, hj]) | (refine arr_intro fun _ => ?_) | (refine later_intro ⟨keeps_nil, ?_⟩) | (refine later_intro ⟨keeps_refl, ?_⟩) | (with_reducible refine keeps_go (by simp [keeps_cons, keeps_none, objs_app, objs_app0] <;> fail) ?_) | (refine both_ways ?_ ?_) | (rw [wrap_i64 (by omega) (by omega)]) | (refine guardV_split (fun h => ?_) (fun h => ?_) <;> (try rw [h]) <;> (try simp at h) <;> (try (exfalso; omega))))
      refine ⟨h.x, rfl, ?_⟩
      simpa [AV.strip, AV.strips, Msg.bytes, Msg.rest, hq, subB, blobB] using hK
    · obtain ⟨_, o1, o2, _⟩ := hs
      repeat' (first | (simp -dsimp only [↓reduceIte, go_sem, c, hq, hj, hk]) | (refine arr_intro fun _ => ?_) | (refine later_intro ⟨keeps_nil, ?_⟩) | (refine later_intro ⟨keeps_refl, ?_⟩) | (with_reducible refine keeps_go (by simp [keeps_cons, keeps_none, objs_app, objs_app0] <;> fail) ?_) | (refine both_ways ?_ ?_) | (rw [wrap_i64 (by omega) (by omega)]) | (refine guardV_split (fun h => ?_) (fun h => ?_) <;> (try rw [h]) <;> (try simp at h) <;> (try (exfalso; omega))) | (refine bI1 ?_) | (refine bI2 ?_) | (refine bI3 ?_) | (refine bI4 ?_) | (refine bD1 ?_) | (refine bD2 ?_))
      refine wInts_c 1 (l := [m.client]) (by (intro n hn; simp at hn; omega)) (by simp) (by omega) (by omega) h fun s h b => ?_
      have c := h.cell (k := k) (List.mem_cons_self ..)
      repeat' (first | (simp -dsimp only [↓reduceIte, go_sem, c, hq, hj, hk]) | (refine arr_intro fun _ => ?_) | (refine later_intro ⟨keeps_nil, ?_⟩) | (refine later_intro ⟨keeps_refl, ?_⟩) | (with_reducible refine keeps_go (by simp [keeps_cons, keeps_none, objs_app, objs_app0] <;> fail) ?_) | (refine both_ways ?_ ?_) | (rw [wrap_i64 (by omega) (by omega)]) | (refine guardV_split (fun h => ?_) (fun h => ?_) <;> (try rw [h]) <;> (try simp at h) <;> (try (exfalso; omega))) | (refine bI1 ?_) | (refine bI2 ?_) | (refine bI3 ?_) | (refine bI4 ?_) | (refine bD1 ?_) | (refine bD2 ?_))
      refine wText_c 512 (by omega) (by omega) (by omega) h fun s h b => ?_
      have c := h.cell (k := k) (List.mem_cons_self ..)
      repeat' (first | (simp -dsimp only [↓reduceIte, go_sem, c, hq, hj, hk]) | (refine arr_intro fun _ => ?_) | (refine later_intro ⟨keeps_nil, ?_⟩) | (refine later_intro ⟨keeps_refl, ?_⟩) | (with_reducible refine keeps_go (by simp [keeps_cons, keeps_none, objs_app, objs_app0] <;> fail) ?_) | (refine both_ways ?_ ?_) | (rw [wrap_i64 (by omega) (by omega)]) | (refine guardV_split (fun h => ?_) (fun h => ?_) <;> (try rw [h]) <;> (try simp at h) <;> (try (exfalso; omega))) | (refine bI1 ?_) | (refine bI2 ?_) | (refine bI3 ?_) | (refine bI4 ?_) | (refine bD1 ?_) | (refine bD2 ?_))
      refine wDigs_c 1 (l := [m.tag]) (by simp) (by omega) (by omega) h fun s h b => ?_
      have c := h.cell (k := k) (List.mem_cons_self ..)
      repeat' (first | (simp -dsimp only [↓reduceIte, go_sem, c, hq, hj, hk]) | (refine arr_intro fun _ => ?_) | (refine later_intro ⟨keeps_nil, ?_⟩) | (refine later_intro ⟨keeps_refl, ?_⟩) | (with_reducible refine keeps_go (by simp [keeps_cons, keeps_none, objs_app, objs_app0] <;> fail) ?_) | (refine both_ways ?_ ?_) | (rw [wrap_i64 (by omega) (by omega)]) | (refine guardV_split (fun h => ?_) (fun h => ?_) <;> (try rw [h]) <;> (try simp at h) <;> (try (exfalso; omega))) | (refine bI1 ?_) | (refine bI2 ?_) | (refine bI3 ?_) | (refine bI4 ?_) | (refine bD1 ?_) | (refine bD2 ?_))
      obtain ⟨tb, w1, w2, w3⟩ := h.w
      have c := cellAt_known w3
      repeat' (first | (simp -dsimp only [↓reduceIte, go_sem, c, hq, hj]) | (refine arr_intro fun _ => ?_) | (refine later_intro ⟨keeps_nil, ?_⟩) | (refine later_intro ⟨keeps_refl, ?_⟩) | (with_reducible refine keeps_go (by simp [keeps_cons, keeps_none, objs_app, objs_app0] <;> fail) ?_) | (refine both_ways ?_ ?_) | (rw [wrap_i64 (by omega) (by omega)]) | (refine guardV_split (fun h => ?_) (fun h => ?_) <;> (try rw [h]) <;> (try simp at h) <;> (try (exfalso; omega))))
      refine ⟨h.x, rfl, ?_⟩
      simpa [AV.strip, AV.strips, Msg.bytes, Msg.rest, hq, subB, blobB] using hK
    · obtain ⟨o1, o2, o3⟩ := hs
      simp only [In] at o1 o2
      repeat' (first | (simp -dsimp only [↓reduceIte, go_sem, c, hq, hj, hk]) | (refine arr_intro fun _ => ?_) | (refine later_intro ⟨keeps_nil, ?_⟩) | (refine later_intro ⟨keeps_refl, ?_⟩) | (with_reducible refine keeps_go (by simp [keeps_cons, keeps_none, objs_app, objs_app0] <;> fail) ?_) | (refine both_ways ?_ ?_) | (rw [wrap_i64 (by omega) (by omega)]) | (refine guardV_split (fun h => ?_) (fun h => ?_) <;> (try rw [h]) <;> (try simp at h) <;> (try (exfalso; omega))) | (refine bI1 ?_) | (refine bI2 ?_) | (refine bI3 ?_) | (refine bI4 ?_) | (refine bD1 ?_) | (refine bD2 ?_))
      refine wInts_c 2 (l := [m.blob.owner, m.blob.num]) (by (intro n hn; simp at hn; omega)) (by simp) (by omega) (by omega) h fun s h b => ?_
      have c := h.cell (k := k) (List.mem_cons_self ..)
      repeat' (first | (simp -dsimp only [↓reduceIte, go_sem, c, hq, hj, hk]) | (refine arr_intro fun _ => ?_) | (refine later_intro ⟨keeps_nil, ?_⟩) | (refine later_intro ⟨keeps_refl, ?_⟩) | (with_reducible refine keeps_go (by simp [keeps_cons, keeps_none, objs_app, objs_app0] <;> fail) ?_) | (refine both_ways ?_ ?_) | (rw [wrap_i64 (by omega) (by omega)]) | (refine guardV_split (fun h => ?_) (fun h => ?_) <;> (try rw [h]) <;> (try simp at h) <;> (try (exfalso; omega))) | (refine bI1 ?_) | (refine bI2 ?_) | (refine bI3 ?_) | (refine bI4 ?_) | (refine bD1 ?_) | (refine bD2 ?_))
      refine wText_c 4096 (by omega) (by omega) (by omega) h fun s h b => ?_
      have c := h.cell (k := k) (List.mem_cons_self ..)
      repeat' (first | (simp -dsimp only [↓reduceIte, go_sem, c, hq, hj, hk]) | (refine arr_intro fun _ => ?_) | (refine later_intro ⟨keeps_nil, ?_⟩) | (refine later_intro ⟨keeps_refl, ?_⟩) | (with_reducible refine keeps_go (by simp [keeps_cons, keeps_none, objs_app, objs_app0] <;> fail) ?_) | (refine both_ways ?_ ?_) | (rw [wrap_i64 (by omega) (by omega)]) | (refine guardV_split (fun h => ?_) (fun h => ?_) <;> (try rw [h]) <;> (try simp at h) <;> (try (exfalso; omega))) | (refine bI1 ?_) | (refine bI2 ?_) | (refine bI3 ?_) | (refine bI4 ?_) | (refine bD1 ?_) | (refine bD2 ?_))
      refine wDigs_c 1 (l := [m.blob.tag]) (by simp) (by omega) (by omega) h fun s h b => ?_
      have c := h.cell (k := k) (List.mem_cons_self ..)
      repeat' (first | (simp -dsimp only [↓reduceIte, go_sem, c, hq, hj, hk]) | (refine arr_intro fun _ => ?_) | (refine later_intro ⟨keeps_nil, ?_⟩) | (refine later_intro ⟨keeps_refl, ?_⟩) | (with_reducible refine keeps_go (by simp [keeps_cons, keeps_none, objs_app, objs_app0] <;> fail) ?_) | (refine both_ways ?_ ?_) | (rw [wrap_i64 (by omega) (by omega)]) | (refine guardV_split (fun h => ?_) (fun h => ?_) <;> (try rw [h]) <;> (try simp at h) <;> (try (exfalso; omega))) | (refine bI1 ?_) | (refine bI2 ?_) | (refine bI3 ?_) | (refine bI4 ?_) | (refine bD1 ?_) | (refine bD2 ?_))
      obtain ⟨tb, w1, w2, w3⟩ := h.w
      have c := cellAt_known w3
      repeat' (first | (simp -dsimp only [↓reduceIte, go_sem, c, hq, hj]) | (refine arr_intro fun _ => ?_) | (refine later_intro ⟨keeps_nil, ?_⟩) | (refine later_intro ⟨keeps_refl, ?_⟩) | (with_reducible refine keeps_go (by simp [keeps_cons, keeps_none, objs_app, objs_app0] <;> fail) ?_) | (refine both_ways ?_ ?_) | (rw [wrap_i64 (by omega) (by omega)]) | (refine guardV_split (fun h => ?_) (fun h => ?_) <;> (try rw [h]) <;> (try simp at h) <;> (try (exfalso; omega))))
      refine ⟨h.x, rfl, ?_⟩
      simpa [AV.strip, AV.strips, Msg.bytes, Msg.rest, hq, subB, blobB] using hK
    · repeat' (first | (simp -dsimp only [↓reduceIte, go_sem, c, hq, hj, hk]) | (refine arr_intro fun _ => ?_) | (refine later_intro ⟨keeps_nil, ?_⟩) | (refine later_intro ⟨keeps_refl, ?_⟩) | (with_reducible refine keeps_go (by simp [keeps_cons, keeps_none, objs_app, objs_app0] <;> fail) ?_) | (refine both_ways ?_ ?_) | (rw [wrap_i64 (by omega) (by omega)]) | (refine guardV_split (fun h => ?_) (fun h => ?_) <;> (try rw [h]) <;> (try simp at h) <;> (try (exfalso; omega))) | (refine bI1 ?_) | (refine bI2 ?_) | (refine bI3 ?_) | (refine bI4 ?_) | (refine bD1 ?_) | (refine bD2 ?_))
      refine wInts_c 1 (l := [m.client]) (by (intro n hn; simp at hn; omega)) (by simp) (by omega) (by omega) h fun s h b => ?_
      have c := h.cell (k := k) (List.mem_cons_self ..)
      repeat' (first | (simp -dsimp only [↓reduceIte, go_sem, c, hq, hj, hk]) | (refine arr_intro fun _ => ?_) | (refine later_intro ⟨keeps_nil, ?_⟩) | (refine later_intro ⟨keeps_refl, ?_⟩) | (with_reducible refine keeps_go (by simp [keeps_cons, keeps_none, objs_app, objs_app0] <;> fail) ?_) | (refine both_ways ?_ ?_) | (rw [wrap_i64 (by omega) (by omega)]) | (refine guardV_split (fun h => ?_) (fun h => ?_) <;> (try rw [h]) <;> (try simp at h) <;> (try (exfalso; omega))) | (refine bI1 ?_) | (refine bI2 ?_) | (refine bI3 ?_) | (refine bI4 ?_) | (refine bD1 ?_) | (refine bD2 ?_))
      generalize hys : [m.kind].flatMap numS ++ [m.client].flatMap numS = ys at h b
      have e : m.bytes = ys ++ laidAll numS m.nums := by rw [← hys]; simp [Msg.bytes, Msg.rest, hq]
      rw [e] at hK
      have hyl : ys.length ≤ 100 := by omega
      obtain ⟨tb, w1, w2, w3⟩ := h.w
      have c1 := cellAt_known w3
      have o2 : ∀ n, (growS s tb n 1).objs[j]? = some (.cells (.agg [.slice tb (u8s ys)])) := fun n => by rw [growS_objs]; exact w3
      have c2 := fun n => cellAt_known (o2 n)
      have hl : ¬ 512 < m.nums.length := by have := hs.2; simp only [In] at this; omega
      have hl2 : (laidAll numS m.nums).length ≤ 20000 := by
        have h1 := part_len (f := numS) (l := m.nums) (m := 22) (i := m.nums.length) (fun x hx => numS_len (hs.in_ x hx).1 (hs.in_ x hx).2) (Nat.le_refl _); have := hs.2; simp only [In] at this; simp only [laidAll, List.length_append, List.length_cons, List.length_nil]; omega
      repeat' (first | (simp -dsimp only [↓reduceIte, go_sem, c, hq, hj, hk, c1, w3, o2, c2, hl]) | (refine arr_intro fun _ => ?_) | (refine later_intro ⟨keeps_nil, ?_⟩) | (refine later_intro ⟨keeps_refl, ?_⟩) | (with_reducible refine keeps_go (by simp [keeps_cons, keeps_none, objs_app, objs_app0] <;> fail) ?_) | (refine both_ways ?_ ?_) | (rw [wrap_i64 (by omega) (by omega)]) | (refine guardV_split (fun h => ?_) (fun h => ?_) <;> (try rw [h]) <;> (try simp at h) <;> (try (exfalso; omega))) | (refine L01.numbers_c hs.in_ ?_) | (refine append_text E51 Try.underlying9 w2 (by omega) (by simp only [maxL]; omega) ?_))
      have h := h.grow (m := ys.length + (laidAll numS m.nums).length) (ys := ys ++ laidAll numS m.nums) w1 w2 w3 (by simp)
      obtain ⟨tb, w1, w2, w3⟩ := h.w
      have c := cellAt_known w3
      repeat' (first | (simp -dsimp only [↓reduceIte, go_sem, c, hq, hj]) | (refine arr_intro fun _ => ?_) | (refine later_intro ⟨keeps_nil, ?_⟩) | (refine later_intro ⟨keeps_refl, ?_⟩) | (with_reducible refine keeps_go (by simp [keeps_cons, keeps_none, objs_app, objs_app0] <;> fail) ?_) | (refine both_ways ?_ ?_) | (rw [wrap_i64 (by omega) (by omega)]) | (refine guardV_split (fun h => ?_) (fun h => ?_) <;> (try rw [h]) <;> (try simp at h) <;> (try (exfalso; omega))))
      refine ⟨h.x, rfl, ?_⟩
      simpa [AV.strip, AV.strips, Msg.bytes, Msg.rest, hq, subB, blobB] using hK
    · obtain ⟨o1, o2, o3⟩ := hs
      simp only [In] at o1 o2
      repeat' (first | (simp -dsimp only [↓reduceIte, go_sem, c, hq, hj, hk]) | (refine arr_intro fun _ => ?_) | (refine later_intro ⟨keeps_nil, ?_⟩) | (refine later_intro ⟨keeps_refl, ?_⟩) | (with_reducible refine keeps_go (by simp [keeps_cons, keeps_none, objs_app, objs_app0] <;> fail) ?_) | (refine both_ways ?_ ?_) | (rw [wrap_i64 (by omega) (by omega)]) | (refine guardV_split (fun h => ?_) (fun h => ?_) <;> (try rw [h]) <;> (try simp at h) <;> (try (exfalso; omega))) | (refine bI1 ?_) | (refine bI2 ?_) | (refine bI3 ?_) | (refine bI4 ?_) | (refine bD1 ?_) | (refine bD2 ?_))
      refine wInts_c 2 (l := [m.blob.owner, m.blob.num]) (by (intro n hn; simp at hn; omega)) (by simp) (by omega) (by omega) h fun s h b => ?_
      have c := h.cell (k := k) (List.mem_cons_self ..)
      repeat' (first | (simp -dsimp only [↓reduceIte, go_sem, c, hq, hj, hk]) | (refine arr_intro fun _ => ?_) | (refine later_intro ⟨keeps_nil, ?_⟩) | (refine later_intro ⟨keeps_refl, ?_⟩) | (with_reducible refine keeps_go (by simp [keeps_cons, keeps_none, objs_app, objs_app0] <;> fail) ?_) | (refine both_ways ?_ ?_) | (rw [wrap_i64 (by omega) (by omega)]) | (refine guardV_split (fun h => ?_) (fun h => ?_) <;> (try rw [h]) <;> (try simp at h) <;> (try (exfalso; omega))) | (refine bI1 ?_) | (refine bI2 ?_) | (refine bI3 ?_) | (refine bI4 ?_) | (refine bD1 ?_) | (refine bD2 ?_))
      refine wText_c 4096 (by omega) (by omega) (by omega) h fun s h b => ?_
      have c := h.cell (k := k) (List.mem_cons_self ..)
      repeat' (first | (simp -dsimp only [↓reduceIte, go_sem, c, hq, hj, hk]) | (refine arr_intro fun _ => ?_) | (refine later_intro ⟨keeps_nil, ?_⟩) | (refine later_intro ⟨keeps_refl, ?_⟩) | (with_reducible refine keeps_go (by simp [keeps_cons, keeps_none, objs_app, objs_app0] <;> fail) ?_) | (refine both_ways ?_ ?_) | (rw [wrap_i64 (by omega) (by omega)]) | (refine guardV_split (fun h => ?_) (fun h => ?_) <;> (try rw [h]) <;> (try simp at h) <;> (try (exfalso; omega))) | (refine bI1 ?_) | (refine bI2 ?_) | (refine bI3 ?_) | (refine bI4 ?_) | (refine bD1 ?_) | (refine bD2 ?_))
      refine wDigs_c 1 (l := [m.blob.tag]) (by simp) (by omega) (by omega) h fun s h b => ?_
      have c := h.cell (k := k) (List.mem_cons_self ..)
      repeat' (first | (simp -dsimp only [↓reduceIte, go_sem, c, hq, hj, hk]) | (refine arr_intro fun _ => ?_) | (refine later_intro ⟨keeps_nil, ?_⟩) | (refine later_intro ⟨keeps_refl, ?_⟩) | (with_reducible refine keeps_go (by simp [keeps_cons, keeps_none, objs_app, objs_app0] <;> fail) ?_) | (refine both_ways ?_ ?_) | (rw [wrap_i64 (by omega) (by omega)]) | (refine guardV_split (fun h => ?_) (fun h => ?_) <;> (try rw [h]) <;> (try simp at h) <;> (try (exfalso; omega))) | (refine bI1 ?_) | (refine bI2 ?_) | (refine bI3 ?_) | (refine bI4 ?_) | (refine bD1 ?_) | (refine bD2 ?_))
      obtain ⟨tb, w1, w2, w3⟩ := h.w
      have c := cellAt_known w3
      repeat' (first | (simp -dsimp only [↓reduceIte, go_sem, c, hq, hj]) | (refine arr_intro fun _ => ?_) | (refine later_intro ⟨keeps_nil, ?_⟩) | (refine later_intro ⟨keeps_refl, ?_⟩) | (with_reducible refine keeps_go (by simp [keeps_cons, keeps_none, objs_app, objs_app0] <;> fail) ?_) | (refine both_ways ?_ ?_) | (rw [wrap_i64 (by omega) (by omega)]) | (refine guardV_split (fun h => ?_) (fun h => ?_) <;> (try rw [h]) <;> (try simp at h) <;> (try (exfalso; omega))))
      refine ⟨h.x, rfl, ?_⟩
      simpa [AV.strip, AV.strips, Msg.bytes, Msg.rest, hq, subB, blobB] using hK
    · repeat' (first | (simp -dsimp only [↓reduceIte, go_sem, c, hq, hj, hk]) | (refine arr_intro fun _ => ?_) | (refine later_intro ⟨keeps_nil, ?_⟩) | (refine later_intro ⟨keeps_refl, ?_⟩) | (with_reducible refine keeps_go (by simp [keeps_cons, keeps_none, objs_app, objs_app0] <;> fail) ?_) | (refine both_ways ?_ ?_) | (rw [wrap_i64 (by omega) (by omega)]) | (refine guardV_split (fun h => ?_) (fun h => ?_) <;> (try rw [h]) <;> (try simp at h) <;> (try (exfalso; omega))) | (refine bI1 ?_) | (refine bI2 ?_) | (refine bI3 ?_) | (refine bI4 ?_) | (refine bD1 ?_) | (refine bD2 ?_))
      refine wInts_c 1 (l := [m.client]) (by (intro n hn; simp at hn; omega)) (by simp) (by omega) (by omega) h fun s h b => ?_
      have c := h.cell (k := k) (List.mem_cons_self ..)
      repeat' (first | (simp -dsimp only [↓reduceIte, go_sem, c, hq, hj, hk]) | (refine arr_intro fun _ => ?_) | (refine later_intro ⟨keeps_nil, ?_⟩) | (refine later_intro ⟨keeps_refl, ?_⟩) | (with_reducible refine keeps_go (by simp [keeps_cons, keeps_none, objs_app, objs_app0] <;> fail) ?_) | (refine both_ways ?_ ?_) | (rw [wrap_i64 (by omega) (by omega)]) | (refine guardV_split (fun h => ?_) (fun h => ?_) <;> (try rw [h]) <;> (try simp at h) <;> (try (exfalso; omega))) | (refine bI1 ?_) | (refine bI2 ?_) | (refine bI3 ?_) | (refine bI4 ?_) | (refine bD1 ?_) | (refine bD2 ?_))
      generalize hys : [m.kind].flatMap numS ++ [m.client].flatMap numS = ys at h b
      have e : m.bytes = ys ++ laidAll numS m.nums := by rw [← hys]; simp [Msg.bytes, Msg.rest, hq]
      rw [e] at hK
      have hyl : ys.length ≤ 100 := by omega
      obtain ⟨tb, w1, w2, w3⟩ := h.w
      have c1 := cellAt_known w3
      have o2 : ∀ n, (growS s tb n 1).objs[j]? = some (.cells (.agg [.slice tb (u8s ys)])) := fun n => by rw [growS_objs]; exact w3
      have c2 := fun n => cellAt_known (o2 n)
      have hl : ¬ 512 < m.nums.length := by have := hs.2; simp only [In] at this; omega
      have hl2 : (laidAll numS m.nums).length ≤ 20000 := by
        have h1 := part_len (f := numS) (l := m.nums) (m := 22) (i := m.nums.length) (fun x hx => numS_len (hs.in_ x hx).1 (hs.in_ x hx).2) (Nat.le_refl _); have := hs.2; simp only [In] at this; simp only [laidAll, List.length_append, List.length_cons, List.length_nil]; omega
      repeat' (first | (simp -dsimp only [↓reduceIte, go_sem, c, hq, hj, hk, c1, w3, o2, c2, hl]) | (refine arr_intro fun _ => ?_) | (refine later_intro ⟨keeps_nil, ?_⟩) | (refine later_intro ⟨keeps_refl, ?_⟩) | (with_reducible refine keeps_go (by simp [keeps_cons, keeps_none, objs_app, objs_app0] <;> fail) ?_) | (refine both_ways ?_ ?_) | (rw [wrap_i64 (by omega) (by omega)]) | (refine guardV_split (fun h => ?_) (fun h => ?_) <;> (try rw [h]) <;> (try simp at h) <;> (try (exfalso; omega))) | (refine L01.numbers_c hs.in_ ?_) | (refine append_text E51 Try.underlying9 w2 (by omega) (by simp only [maxL]; omega) ?_))
      have h := h.grow (m := ys.length + (laidAll numS m.nums).length) (ys := ys ++ laidAll numS m.nums) w1 w2 w3 (by simp)
      obtain ⟨tb, w1, w2, w3⟩ := h.w
      have c := cellAt_known w3
      repeat' (first | (simp -dsimp only [↓reduceIte, go_sem, c, hq, hj]) | (refine arr_intro fun _ => ?_) | (refine later_intro ⟨keeps_nil, ?_⟩) | (refine later_intro ⟨keeps_refl, ?_⟩) | (with_reducible refine keeps_go (by simp [keeps_cons, keeps_none, objs_app, objs_app0] <;> fail) ?_) | (refine both_ways ?_ ?_) | (rw [wrap_i64 (by omega) (by omega)]) | (refine guardV_split (fun h => ?_) (fun h => ?_) <;> (try rw [h]) <;> (try simp at h) <;> (try (exfalso; omega))))
      refine ⟨h.x, rfl, ?_⟩
      simpa [AV.strip, AV.strips, Msg.bytes, Msg.rest, hq, subB, blobB] using hK
    · repeat' (first | (simp -dsimp only [↓reduceIte, go_sem, c, hq, hj, hk]) | (refine arr_intro fun _ => ?_) | (refine later_intro ⟨keeps_nil, ?_⟩) | (refine later_intro ⟨keeps_refl, ?_⟩) | (with_reducible refine keeps_go (by simp [keeps_cons, keeps_none, objs_app, objs_app0] <;> fail) ?_) | (refine both_ways ?_ ?_) | (rw [wrap_i64 (by omega) (by omega)]) | (refine guardV_split (fun h => ?_) (fun h => ?_) <;> (try rw [h]) <;> (try simp at h) <;> (try (exfalso; omega))) | (refine bI1 ?_) | (refine bI2 ?_) | (refine bI3 ?_) | (refine bI4 ?_) | (refine bD1 ?_) | (refine bD2 ?_))
      refine wInts_c 1 (l := [m.client]) (by (intro n hn; simp at hn; omega)) (by simp) (by omega) (by omega) h fun s h b => ?_
      have c := h.cell (k := k) (List.mem_cons_self ..)
      repeat' (first | (simp -dsimp only [↓reduceIte, go_sem, c, hq, hj, hk]) | (refine arr_intro fun _ => ?_) | (refine later_intro ⟨keeps_nil, ?_⟩) | (refine later_intro ⟨keeps_refl, ?_⟩) | (with_reducible refine keeps_go (by simp [keeps_cons, keeps_none, objs_app, objs_app0] <;> fail) ?_) | (refine both_ways ?_ ?_) | (rw [wrap_i64 (by omega) (by omega)]) | (refine guardV_split (fun h => ?_) (fun h => ?_) <;> (try rw [h]) <;> (try simp at h) <;> (try (exfalso; omega))) | (refine bI1 ?_) | (refine bI2 ?_) | (refine bI3 ?_) | (refine bI4 ?_) | (refine bD1 ?_) | (refine bD2 ?_))
      generalize hys : [m.kind].flatMap numS ++ [m.client].flatMap numS = ys at h b
      have e : m.bytes = ys ++ laidAll numS m.nums := by rw [← hys]; simp [Msg.bytes, Msg.rest, hq]
      rw [e] at hK
      have hyl : ys.length ≤ 100 := by omega
      obtain ⟨tb, w1, w2, w3⟩ := h.w
      have c1 := cellAt_known w3
      have o2 : ∀ n, (growS s tb n 1).objs[j]? = some (.cells (.agg [.slice tb (u8s ys)])) := fun n => by rw [growS_objs]; exact w3
      have c2 := fun n => cellAt_known (o2 n)
      have hl : ¬ 512 < m.nums.length := by have := hs.2; simp only [In] at this; omega
      have hl2 : (laidAll numS m.nums).length ≤ 20000 := by
        have h1 := part_len (f := numS) (l := m.nums) (m := 22) (i := m.nums.length) (fun x hx => numS_len (hs.in_ x hx).1 (hs.in_ x hx).2) (Nat.le_refl _); have := hs.2; simp only [In] at this; simp only [laidAll, List.length_append, List.length_cons, List.length_nil]; omega
      repeat' (first | (simp -dsimp only [↓reduceIte, go_sem, c, hq, hj, hk, c1, w3, o2, c2, hl]) | (refine arr_intro fun _ => ?_) | (refine later_intro ⟨keeps_nil, ?_⟩) | (refine later_intro ⟨keeps_refl, ?_⟩) | (with_reducible refine keeps_go (by simp [keeps_cons, keeps_none, objs_app, objs_app0] <;> fail) ?_) | (refine both_ways ?_ ?_) | (rw [wrap_i64 (by omega) (by omega)]) | (refine guardV_split (fun h => ?_) (fun h => ?_) <;> (try rw [h]) <;> (try simp at h) <;> (try (exfalso; omega))) | (refine L01.numbers_c hs.in_ ?_) | (refine append_text E51 Try.underlying9 w2 (by omega) (by simp only [maxL]; omega) ?_))
      have h := h.grow (m := ys.length + (laidAll numS m.nums).length) (ys := ys ++ laidAll numS m.nums) w1 w2 w3 (by simp)
      obtain ⟨tb, w1, w2, w3⟩ := h.w
      have c := cellAt_known w3
      repeat' (first | (simp -dsimp only [↓reduceIte, go_sem, c, hq, hj]) | (refine arr_intro fun _ => ?_) | (refine later_intro ⟨keeps_nil, ?_⟩) | (refine later_intro ⟨keeps_refl, ?_⟩) | (with_reducible refine keeps_go (by simp [keeps_cons, keeps_none, objs_app, objs_app0] <;> fail) ?_) | (refine both_ways ?_ ?_) | (rw [wrap_i64 (by omega) (by omega)]) | (refine guardV_split (fun h => ?_) (fun h => ?_) <;> (try rw [h]) <;> (try simp at h) <;> (try (exfalso; omega))))
      refine ⟨h.x, rfl, ?_⟩
      simpa [AV.strip, AV.strips, Msg.bytes, Msg.rest, hq, subB, blobB] using hK
    · repeat' (first | (simp -dsimp only [↓reduceIte, go_sem, c, hq, hj, hk]) | (refine arr_intro fun _ => ?_) | (refine later_intro ⟨keeps_nil, ?_⟩) | (refine later_intro ⟨keeps_refl, ?_⟩) | (with_reducible refine keeps_go (by simp [keeps_cons, keeps_none, objs_app, objs_app0] <;> fail) ?_) | (refine both_ways ?_ ?_) | (rw [wrap_i64 (by omega) (by omega)]) | (refine guardV_split (fun h => ?_) (fun h => ?_) <;> (try rw [h]) <;> (try simp at h) <;> (try (exfalso; omega))) | (refine bI1 ?_) | (refine bI2 ?_) | (refine bI3 ?_) | (refine bI4 ?_) | (refine bD1 ?_) | (refine bD2 ?_))
      refine wInts_c 1 (l := [m.client]) (by (intro n hn; simp at hn; omega)) (by simp) (by omega) (by omega) h fun s h b => ?_
      have c := h.cell (k := k) (List.mem_cons_self ..)
      repeat' (first | (simp -dsimp only [↓reduceIte, go_sem, c, hq, hj, hk]) | (refine arr_intro fun _ => ?_) | (refine later_intro ⟨keeps_nil, ?_⟩) | (refine later_intro ⟨keeps_refl, ?_⟩) | (with_reducible refine keeps_go (by simp [keeps_cons, keeps_none, objs_app, objs_app0] <;> fail) ?_) | (refine both_ways ?_ ?_) | (rw [wrap_i64 (by omega) (by omega)]) | (refine guardV_split (fun h => ?_) (fun h => ?_) <;> (try rw [h]) <;> (try simp at h) <;> (try (exfalso; omega))) | (refine bI1 ?_) | (refine bI2 ?_) | (refine bI3 ?_) | (refine bI4 ?_) | (refine bD1 ?_) | (refine bD2 ?_))
      obtain ⟨tb, w1, w2, w3⟩ := h.w
      have c := cellAt_known w3
      repeat' (first | (simp -dsimp only [↓reduceIte, go_sem, c, hq, hj]) | (refine arr_intro fun _ => ?_) | (refine later_intro ⟨keeps_nil, ?_⟩) | (refine later_intro ⟨keeps_refl, ?_⟩) | (with_reducible refine keeps_go (by simp [keeps_cons, keeps_none, objs_app, objs_app0] <;> fail) ?_) | (refine both_ways ?_ ?_) | (rw [wrap_i64 (by omega) (by omega)]) | (refine guardV_split (fun h => ?_) (fun h => ?_) <;> (try rw [h]) <;> (try simp at h) <;> (try (exfalso; omega))))
      refine ⟨h.x, rfl, ?_⟩
      simpa [AV.strip, AV.strips, Msg.bytes, Msg.rest, hq, subB, blobB] using hK
    · obtain ⟨o0, _, o1, o2, _⟩ := hs
      simp only [In] at o0
      repeat' (first | (simp -dsimp only [↓reduceIte, go_sem, c, hq, hj, hk]) | (refine arr_intro fun _ => ?_) | (refine later_intro ⟨keeps_nil, ?_⟩) | (refine later_intro ⟨keeps_refl, ?_⟩) | (with_reducible refine keeps_go (by simp [keeps_cons, keeps_none, objs_app, objs_app0] <;> fail) ?_) | (refine both_ways ?_ ?_) | (rw [wrap_i64 (by omega) (by omega)]) | (refine guardV_split (fun h => ?_) (fun h => ?_) <;> (try rw [h]) <;> (try simp at h) <;> (try (exfalso; omega))) | (refine bI1 ?_) | (refine bI2 ?_) | (refine bI3 ?_) | (refine bI4 ?_) | (refine bD1 ?_) | (refine bD2 ?_))
      refine wInts_c 1 (l := [m.client]) (by (intro n hn; simp at hn; omega)) (by simp) (by omega) (by omega) h fun s h b => ?_
      have c := h.cell (k := k) (List.mem_cons_self ..)
      repeat' (first | (simp -dsimp only [↓reduceIte, go_sem, c, hq, hj, hk]) | (refine arr_intro fun _ => ?_) | (refine later_intro ⟨keeps_nil, ?_⟩) | (refine later_intro ⟨keeps_refl, ?_⟩) | (with_reducible refine keeps_go (by simp [keeps_cons, keeps_none, objs_app, objs_app0] <;> fail) ?_) | (refine both_ways ?_ ?_) | (rw [wrap_i64 (by omega) (by omega)]) | (refine guardV_split (fun h => ?_) (fun h => ?_) <;> (try rw [h]) <;> (try simp at h) <;> (try (exfalso; omega))) | (refine bI1 ?_) | (refine bI2 ?_) | (refine bI3 ?_) | (refine bI4 ?_) | (refine bD1 ?_) | (refine bD2 ?_))
      refine wInts_c 1 (l := [m.by_]) (by (intro n hn; simp at hn; omega)) (by simp) (by omega) (by omega) h fun s h b => ?_
      have c := h.cell (k := k) (List.mem_cons_self ..)
      repeat' (first | (simp -dsimp only [↓reduceIte, go_sem, c, hq, hj, hk]) | (refine arr_intro fun _ => ?_) | (refine later_intro ⟨keeps_nil, ?_⟩) | (refine later_intro ⟨keeps_refl, ?_⟩) | (with_reducible refine keeps_go (by simp [keeps_cons, keeps_none, objs_app, objs_app0] <;> fail) ?_) | (refine both_ways ?_ ?_) | (rw [wrap_i64 (by omega) (by omega)]) | (refine guardV_split (fun h => ?_) (fun h => ?_) <;> (try rw [h]) <;> (try simp at h) <;> (try (exfalso; omega))) | (refine bI1 ?_) | (refine bI2 ?_) | (refine bI3 ?_) | (refine bI4 ?_) | (refine bD1 ?_) | (refine bD2 ?_))
      refine wText_c 512 (by omega) (by omega) (by omega) h fun s h b => ?_
      have c := h.cell (k := k) (List.mem_cons_self ..)
      repeat' (first | (simp -dsimp only [↓reduceIte, go_sem, c, hq, hj, hk]) | (refine arr_intro fun _ => ?_) | (refine later_intro ⟨keeps_nil, ?_⟩) | (refine later_intro ⟨keeps_refl, ?_⟩) | (with_reducible refine keeps_go (by simp [keeps_cons, keeps_none, objs_app, objs_app0] <;> fail) ?_) | (refine both_ways ?_ ?_) | (rw [wrap_i64 (by omega) (by omega)]) | (refine guardV_split (fun h => ?_) (fun h => ?_) <;> (try rw [h]) <;> (try simp at h) <;> (try (exfalso; omega))) | (refine bI1 ?_) | (refine bI2 ?_) | (refine bI3 ?_) | (refine bI4 ?_) | (refine bD1 ?_) | (refine bD2 ?_))
      refine wDigs_c 2 (l := [m.tag, m.own]) (by simp) (by omega) (by omega) h fun s h b => ?_
      have c := h.cell (k := k) (List.mem_cons_self ..)
      repeat' (first | (simp -dsimp only [↓reduceIte, go_sem, c, hq, hj, hk]) | (refine arr_intro fun _ => ?_) | (refine later_intro ⟨keeps_nil, ?_⟩) | (refine later_intro ⟨keeps_refl, ?_⟩) | (with_reducible refine keeps_go (by simp [keeps_cons, keeps_none, objs_app, objs_app0] <;> fail) ?_) | (refine both_ways ?_ ?_) | (rw [wrap_i64 (by omega) (by omega)]) | (refine guardV_split (fun h => ?_) (fun h => ?_) <;> (try rw [h]) <;> (try simp at h) <;> (try (exfalso; omega))) | (refine bI1 ?_) | (refine bI2 ?_) | (refine bI3 ?_) | (refine bI4 ?_) | (refine bD1 ?_) | (refine bD2 ?_))
      obtain ⟨tb, w1, w2, w3⟩ := h.w
      have c := cellAt_known w3
      repeat' (first | (simp -dsimp only [↓reduceIte, go_sem, c, hq, hj]) | (refine arr_intro fun _ => ?_) | (refine later_intro ⟨keeps_nil, ?_⟩) | (refine later_intro ⟨keeps_refl, ?_⟩) | (with_reducible refine keeps_go (by simp [keeps_cons, keeps_none, objs_app, objs_app0] <;> fail) ?_) | (refine both_ways ?_ ?_) | (rw [wrap_i64 (by omega) (by omega)]) | (refine guardV_split (fun h => ?_) (fun h => ?_) <;> (try rw [h]) <;> (try simp at h) <;> (try (exfalso; omega))))
      refine ⟨h.x, rfl, ?_⟩
      simpa [AV.strip, AV.strips, Msg.bytes, Msg.rest, hq, subB, blobB] using hK
    · repeat' (first | (simp -dsimp only [↓reduceIte, go_sem, c, hq, hj, hk]) | (refine arr_intro fun _ => ?_) | (refine later_intro ⟨keeps_nil, ?_⟩) | (refine later_intro ⟨keeps_refl, ?_⟩) | (with_reducible refine keeps_go (by simp [keeps_cons, keeps_none, objs_app, objs_app0] <;> fail) ?_) | (refine both_ways ?_ ?_) | (rw [wrap_i64 (by omega) (by omega)]) | (refine guardV_split (fun h => ?_) (fun h => ?_) <;> (try rw [h]) <;> (try simp at h) <;> (try (exfalso; omega))) | (refine bI1 ?_) | (refine bI2 ?_) | (refine bI3 ?_) | (refine bI4 ?_) | (refine bD1 ?_) | (refine bD2 ?_))
      refine wInts_c 1 (l := [m.client]) (by (intro n hn; simp at hn; omega)) (by simp) (by omega) (by omega) h fun s h b => ?_
      have c := h.cell (k := k) (List.mem_cons_self ..)
      repeat' (first | (simp -dsimp only [↓reduceIte, go_sem, c, hq, hj, hk]) | (refine arr_intro fun _ => ?_) | (refine later_intro ⟨keeps_nil, ?_⟩) | (refine later_intro ⟨keeps_refl, ?_⟩) | (with_reducible refine keeps_go (by simp [keeps_cons, keeps_none, objs_app, objs_app0] <;> fail) ?_) | (refine both_ways ?_ ?_) | (rw [wrap_i64 (by omega) (by omega)]) | (refine guardV_split (fun h => ?_) (fun h => ?_) <;> (try rw [h]) <;> (try simp at h) <;> (try (exfalso; omega))) | (refine bI1 ?_) | (refine bI2 ?_) | (refine bI3 ?_) | (refine bI4 ?_) | (refine bD1 ?_) | (refine bD2 ?_))
      refine wDigs_c 1 (l := [m.own]) (by simp) (by omega) (by omega) h fun s h b => ?_
      have c := h.cell (k := k) (List.mem_cons_self ..)
      repeat' (first | (simp -dsimp only [↓reduceIte, go_sem, c, hq, hj, hk]) | (refine arr_intro fun _ => ?_) | (refine later_intro ⟨keeps_nil, ?_⟩) | (refine later_intro ⟨keeps_refl, ?_⟩) | (with_reducible refine keeps_go (by simp [keeps_cons, keeps_none, objs_app, objs_app0] <;> fail) ?_) | (refine both_ways ?_ ?_) | (rw [wrap_i64 (by omega) (by omega)]) | (refine guardV_split (fun h => ?_) (fun h => ?_) <;> (try rw [h]) <;> (try simp at h) <;> (try (exfalso; omega))) | (refine bI1 ?_) | (refine bI2 ?_) | (refine bI3 ?_) | (refine bI4 ?_) | (refine bD1 ?_) | (refine bD2 ?_))
      obtain ⟨tb, w1, w2, w3⟩ := h.w
      have c := cellAt_known w3
      repeat' (first | (simp -dsimp only [↓reduceIte, go_sem, c, hq, hj]) | (refine arr_intro fun _ => ?_) | (refine later_intro ⟨keeps_nil, ?_⟩) | (refine later_intro ⟨keeps_refl, ?_⟩) | (with_reducible refine keeps_go (by simp [keeps_cons, keeps_none, objs_app, objs_app0] <;> fail) ?_) | (refine both_ways ?_ ?_) | (rw [wrap_i64 (by omega) (by omega)]) | (refine guardV_split (fun h => ?_) (fun h => ?_) <;> (try rw [h]) <;> (try simp at h) <;> (try (exfalso; omega))))
      refine ⟨h.x, rfl, ?_⟩
      simpa [AV.strip, AV.strips, Msg.bytes, Msg.rest, hq, subB, blobB] using hK
  · rw [if_neg hok] at hK
    repeat' (first | (simp -dsimp only [↓reduceIte, go_sem, hok]) | (refine arr_intro fun _ => ?_) | (refine later_intro ⟨keeps_nil, ?_⟩) | (refine later_intro ⟨keeps_refl, ?_⟩) | (with_reducible refine keeps_go (by simp [keeps_cons, keeps_none, objs_app, objs_app0] <;> fail) ?_) | (refine both_ways ?_ ?_) | (rw [wrap_i64 (by omega) (by omega)]) | (refine guardV_split (fun h => ?_) (fun h => ?_) <;> (try rw [h]) <;> (try simp at h) <;> (try (exfalso; omega))))
    exact ⟨Ext.app _ _, rfl, by simpa [AV.strip, AV.strips] using hK⟩
end Go.Aff.L10

