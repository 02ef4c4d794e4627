import Derived.Test.YtikbkaedemmpmaaG32
import Derived.Test.YtikbkaedemmpmaaG21

set_option linter.unusedSimpArgs false
set_option linter.unusedVariables false

/- Layer 13, walked: the server: New, mine, put, its parts. -/
-- cuts
namespace Go.Aff.L10
open Go.Proofs Go.Aff Go.Aff.L01 Classical
set_option linter.unusedVariables false
set_option linter.unusedSimpArgs false
set_option maxRecDepth 20000
attribute [local go_sem] push_app app_app length_app cellAt_app cellAt_app0 set_app set_app0 objs_app objs_app0 List.cons_append List.nil_append List.length_cons List.length_nil List.getElem?_cons_zero List.getElem?_cons_succ List.set_cons_zero List.set_cons_succ List.length_map
attribute [-go_sem] cellAt_new
attribute [-simp] List.length_flatMap
attribute [local go_sem] Try.underlying3 Try.underlying4 Try.underlying5 Try.underlying9 Try.underlying36 Try.underlying37 Try.underlying42 Try.underlying45 Try.underlying31 Try.underlying61 subPs_0 subAt_0 subSet_0 subPs_1 subAt_1 subSet_1 subPs_2 subAt_2 subSet_2 subPs_3 subAt_3 subSet_3 subPs_4 subAt_4 subSet_4 subPs_5 subAt_5 subSet_5 sizes_sub shapes_sub fits_sub zero_sub zt_sub built_sub Try.underlying41 pendPs_0 pendAt_0 pendSet_0 pendPs_1 pendAt_1 pendSet_1 pendPs_2 pendAt_2 pendSet_2 pendPs_3 pendAt_3 pendSet_3 pendPs_4 pendAt_4 pendSet_4 pendPs_5 pendAt_5 pendSet_5 sizes_pend shapes_pend fits_pend zero_pend zt_pend built_pend Try.underlying92 repPs_0 repAt_0 repSet_0 repPs_1 repAt_1 repSet_1 repPs_2 repAt_2 repSet_2 repPs_3 repAt_3 repSet_3 repPs_4 repAt_4 repSet_4 repPs_5 repAt_5 repSet_5 repPs_6 repAt_6 repSet_6 repPs_7 repAt_7 repSet_7 repPs_8 repAt_8 repSet_8 repPs_9 repAt_9 repSet_9 sizes_rep shapes_rep fits_rep zero_rep zt_rep built_rep Try.underlying44 blobPs_0 blobAt_0 blobSet_0 blobPs_1 blobAt_1 blobSet_1 blobPs_2 blobAt_2 blobSet_2 blobPs_3 blobAt_3 blobSet_3 sizes_blob shapes_blob fits_blob zero_blob zt_blob built_blob Try.underlying39 msgPs_0 msgAt_0 msgSet_0 msgPs_1 msgAt_1 msgSet_1 msgPs_2 msgAt_2 msgSet_2 msgPs_3 msgAt_3 msgSet_3 msgPs_4 msgAt_4 msgSet_4 msgPs_5 msgAt_5 msgSet_5 msgPs_6 msgAt_6 msgSet_6 msgPs_7 msgAt_7 msgSet_7 msgPs_8 msgAt_8 msgSet_8 msgPs_9 msgAt_9 msgSet_9 sizes_msg shapes_msg fits_msg zero_msg zt_msg built_msg Try.underlying47 at_Ps_0 at_Set_0 at_Ps_1 at_Set_1 sizes_at_ shapes_at_
attribute [local go_sem] fits3 fits4 fits5 fits9 fits23 fits26 fits31 fits34 fits52 zt3 zero3 zt34 zero34 zt23 zero23 bin_sub_eql bin_pend_eql bin_pend_neq bin_blob_eql bin_dig23_eql bin_dig23_neq slice23
attribute [local go_sem ↓] blockQ_exit2
attribute [local simp] dig_ext
attribute [local go_sem] bkeyPs_0 bkeyAt_0 bkeySet_0 bkeyPs_1 bkeyAt_1 bkeySet_1 sizes_bkey shapes_bkey fits_bkey zero_bkey zt_bkey built_bkey Try.underlying95 bin_blob_neq fits58 stAt zero60 zt60 built60 fits60 shape_mp Try.underlying97 Try.underlying99 Try.underlying28
attribute [local go_sem] sizes_cli shapes_cli fits_cli zero_cli zt_cli built_cli fits_rg zero_rg zt_rg built_rg rgPs_0 rgPs_2 rgSet_0 rgSet_2 rgAt_0 rgAt_2 Try.underlying89 Try.underlying51 Try.underlying26 Try.underlying22
theorem fits26p {o : Option (Nat × List Nat)} : fits Try.prog 26 (.ptr o) = True := by rw [fits_leaf (P := Try.prog) (t := 26) (by kernel_rfl) (by kernel_rfl)]; simp [AV.isAgg, AV.size]
theorem fits28p {o : Option (Nat × List Nat)} : fits Try.prog 28 (.ptr o) = True := by rw [fits_leaf (P := Try.prog) (t := 28) (by kernel_rfl) (by kernel_rfl)]; simp [AV.isAgg, AV.size]
theorem fits22p {o : Option (Nat × List Nat)} : fits Try.prog 22 (.ptr o) = True := by rw [fits_leaf (P := Try.prog) (t := 22) (by kernel_rfl) (by kernel_rfl)]; simp [AV.isAgg, AV.size]
theorem fits76 {v : AV} : fits Try.prog 76 v = (v.isAgg = false ∧ v.size = 1) := fits_leaf (by kernel_rfl) (by kernel_rfl)
theorem fits24 {v : AV} : fits Try.prog 24 v = (v.isAgg = false ∧ v.size = 1) := fits_leaf (by kernel_rfl) (by kernel_rfl)
theorem fits51 {v : AV} : fits Try.prog 51 v = (v.isAgg = true ∧ v.size = 3) := fits_agg (by kernel_rfl) (by kernel_rfl)
def srvPs (n : Int) (r b : Option (Nat × List Nat)) : List AV := [.int .i64 n, .ptr r, .ptr b]
theorem srvPs_0 {n : Int} {r b : Option (Nat × List Nat)} : (srvPs n r b)[0]? = some (.int .i64 n) := nr rfl
theorem srvPs_1 {n : Int} {r b : Option (Nat × List Nat)} : (srvPs n r b)[1]? = some (.ptr r) := nr rfl
theorem srvPs_2 {n : Int} {r b : Option (Nat × List Nat)} : (srvPs n r b)[2]? = some (.ptr b) := nr rfl
theorem srvSet_0 {n m : Int} {r b : Option (Nat × List Nat)} : (srvPs n r b).set 0 (.int .i64 m) = srvPs m r b := nr rfl
theorem srvSet_1 {n : Int} {r b q : Option (Nat × List Nat)} : (srvPs n r b).set 1 (.ptr q) = srvPs n q b := nr rfl
theorem srvSet_2 {n : Int} {r b q : Option (Nat × List Nat)} : (srvPs n r b).set 2 (.ptr q) = srvPs n r q := nr rfl
theorem srvAt_0 {n : Int} {r b : Option (Nat × List Nat)} {v : AV} : partIs Try.prog 51 (srvPs n r b) 0 v = fits Try.prog 3 v := by rw [partIs_of (o := 0) (T := 3) (by kernel_rfl)]; simp [srvPs, AV.sizes, AV.size]
theorem srvAt_1 {n : Int} {r b : Option (Nat × List Nat)} {v : AV} : partIs Try.prog 51 (srvPs n r b) 1 v = fits Try.prog 26 v := by rw [partIs_of (o := 1) (T := 26) (by kernel_rfl)]; simp [srvPs, AV.sizes, AV.size]
theorem srvAt_2 {n : Int} {r b : Option (Nat × List Nat)} {v : AV} : partIs Try.prog 51 (srvPs n r b) 2 v = fits Try.prog 28 v := by rw [partIs_of (o := 2) (T := 28) (by kernel_rfl)]; simp [srvPs, AV.sizes, AV.size]
theorem sizes_srv {n : Int} {r b : Option (Nat × List Nat)} : AV.sizes (srvPs n r b) = 3 := by simp [srvPs, AV.sizes, AV.size]
theorem shapes_srv {n : Int} {r b : Option (Nat × List Nat)} : AV.shapes (srvPs n r b) = [.leaf, .leaf, .leaf] := by simp [srvPs, AV.shapes, AV.shape]
theorem zero_srv : zeroA Try.prog 12 51 = .agg (srvPs 0 none none) := by kernel_rfl
theorem zt_srv : ZeroOf Try.prog 51 (.agg (srvPs 0 none none)) = True := eq_true ⟨_, _, rfl, rfl, rfl, rfl, rfl⟩
theorem built_srv : Built Try.prog 51 = True := eq_true (by unfold Built; rw [Try.underlying51]; decide +kernel)
attribute [local go_sem] fits26p fits28p fits22p fits76 fits24 fits51 srvPs_0 srvPs_1 srvPs_2 srvSet_0 srvSet_1 srvSet_2 srvAt_0 srvAt_1 srvAt_2 sizes_srv shapes_srv zero_srv zt_srv built_srv
theorem rnew_c {σ : AST} {K : AV → AST → Prop} (hK : ∀ s' k, Ext σ s' → K (.tuple [.ptr (some (k, [])), .int .i64 0]) s') : TCalls Try.prog 17 [.int .i64 3] σ K := by
  have h8 : rg0.cs.length = 8 := by simp [rg0]
  refine tcalls_walk Try.f17 _ [.tmp 2, .tmp 3] Try.func17 rfl rfl rfl mixed (Nat.le_of_ble_eq_true rfl) rfl fun hlen => ?_
  repeat' (first | (simp -dsimp only [↓reduceIte, go_sem, h8]) | (refine arr_intro fun _ => ?_) | (refine later_intro ⟨keeps_nil, ?_⟩) | (refine later_intro ⟨keeps_refl, ?_⟩) | (with_reducible refine keeps_go ?_ ?_; focus (first | (simp [keeps_cons, keeps_none, objs_app, objs_app0]; done) | (simp only [keeps_cons, keeps_none, objs_app0, objs_app, and_true]; first | rfl | exact ⟨rfl, rfl⟩ | exact ⟨rfl, rfl, rfl⟩))) | (with_reducible refine (And.intro (a := keeps _ _ _) ?_ ?_); focus (first | (simp [keeps_cons, keeps_none, objs_app, objs_app0]; done) | (simp only [keeps_cons, keeps_none, objs_app0, objs_app, and_true]; first | rfl | exact ⟨rfl, rfl⟩ | exact ⟨rfl, rfl, rfl⟩))) | (refine both_ways ?_ ?_) | (rw [wrap_i64 (by omega) (by omega)]) | (refine guardV_split (fun h => ?_) (fun h => ?_) <;> (try rw [h]) <;> (try simp at h) <;> (try (exfalso; omega))))
  exact hK _ _ (Ext.app _ _)
/-- The server in memory: its record stands at q. -/
def srvO (r j : Nat) : AObj := .cells (.agg (srvPs 3 (some (r, [])) (some (j, []))))
theorem new_c {σ : AST} {K : AV → AST → Prop} (hK : ∀ s' q r j mi, SF σ s' j mi [] [(q, srvO r j)] → K (.tuple [.ptr (some (q, [])), .int .i64 0]) s') : TCalls Try.prog 8 [.int .i64 3] σ K := by
  refine tcalls_walk Try.f8 _ [.tmp 2, .tmp 3] Try.func8 rfl rfl rfl mixed (Nat.le_of_ble_eq_true rfl) rfl fun hlen => ?_
  repeat' (first | (simp -dsimp only [↓reduceIte, go_sem]) | (refine arr_intro fun _ => ?_) | (refine later_intro ⟨keeps_nil, ?_⟩) | (refine later_intro ⟨keeps_refl, ?_⟩) | (with_reducible refine keeps_go ?_ ?_; focus (first | (simp [keeps_cons, keeps_none, objs_app, objs_app0]; done) | (simp only [keeps_cons, keeps_none, objs_app0, objs_app, and_true]; first | rfl | exact ⟨rfl, rfl⟩ | exact ⟨rfl, rfl, rfl⟩))) | (with_reducible refine (And.intro (a := keeps _ _ _) ?_ ?_); focus (first | (simp [keeps_cons, keeps_none, objs_app, objs_app0]; done) | (simp only [keeps_cons, keeps_none, objs_app0, objs_app, and_true]; first | rfl | exact ⟨rfl, rfl⟩ | exact ⟨rfl, rfl, rfl⟩))) | (refine both_ways ?_ ?_) | (rw [wrap_i64 (by omega) (by omega)]) | (refine guardV_split (fun h => ?_) (fun h => ?_) <;> (try rw [h]) <;> (try simp at h) <;> (try (exfalso; omega))))
  refine rnew_c fun s1 k hx => ?_
  repeat' (first | (simp -dsimp only [↓reduceIte, go_sem]) | (refine arr_intro fun _ => ?_) | (refine later_intro ⟨keeps_nil, ?_⟩) | (refine later_intro ⟨keeps_refl, ?_⟩) | (with_reducible refine keeps_go ?_ ?_; focus (first | (simp [keeps_cons, keeps_none, objs_app, objs_app0]; done) | (simp only [keeps_cons, keeps_none, objs_app0, objs_app, and_true]; first | rfl | exact ⟨rfl, rfl⟩ | exact ⟨rfl, rfl, rfl⟩))) | (with_reducible refine (And.intro (a := keeps _ _ _) ?_ ?_); focus (first | (simp [keeps_cons, keeps_none, objs_app, objs_app0]; done) | (simp only [keeps_cons, keeps_none, objs_app0, objs_app, and_true]; first | rfl | exact ⟨rfl, rfl⟩ | exact ⟨rfl, rfl, rfl⟩))) | (refine both_ways ?_ ?_) | (rw [wrap_i64 (by omega) (by omega)]) | (refine guardV_split (fun h => ?_) (fun h => ?_) <;> (try rw [h]) <;> (try simp at h) <;> (try (exfalso; omega))))
  refine snew_c fun s2 j mi h2 => ?_
  have h3 := h2.box (srvO k j)
  repeat' (first | (simp -dsimp only [↓reduceIte, go_sem]) | (refine arr_intro fun _ => ?_) | (refine later_intro ⟨keeps_nil, ?_⟩) | (refine later_intro ⟨keeps_refl, ?_⟩) | (with_reducible refine keeps_go ?_ ?_; focus (first | (simp [keeps_cons, keeps_none, objs_app, objs_app0]; done) | (simp only [keeps_cons, keeps_none, objs_app0, objs_app, and_true]; first | rfl | exact ⟨rfl, rfl⟩ | exact ⟨rfl, rfl, rfl⟩))) | (with_reducible refine (And.intro (a := keeps _ _ _) ?_ ?_); focus (first | (simp [keeps_cons, keeps_none, objs_app, objs_app0]; done) | (simp only [keeps_cons, keeps_none, objs_app0, objs_app, and_true]; first | rfl | exact ⟨rfl, rfl⟩ | exact ⟨rfl, rfl, rfl⟩))) | (refine both_ways ?_ ?_) | (rw [wrap_i64 (by omega) (by omega)]) | (refine guardV_split (fun h => ?_) (fun h => ?_) <;> (try rw [h]) <;> (try simp at h) <;> (try (exfalso; omega))))
  refine hK _ _ _ _ _ ⟨hx.trans h3.x, ?_, ?_, h3.jm, h3.o, h3.om, h3.f⟩
  · have := h3.jn; obtain ⟨O, T, rfl⟩ := hx; simp at this; omega
  · have := h3.mn; obtain ⟨O, T, rfl⟩ := hx; simp at this; omega
noncomputable def mineB (c : Int) (m : Msg) : Bool := if m.kind = 4 then m.blob.owner == c else if m.kind = 5 then true else m.client == c
theorem mine_c {c : Int} {m : Msg} {t u : Tk} {σ : AST} {K : AV → AST → Prop} (hK : K (.bool (mineB c m)) σ) : TCalls Try.prog 11 [.int .i64 c, msgV t u m] σ K := by
  refine TCalls.drop ?_
  have hfin : ∀ s' b, Ext σ s' → mineB c m = b → Ext σ s' ∧ (AV.bool b).noRef = true ∧ K (AV.bool b).strip σ := fun s' b hx he => ⟨hx, rfl, by rw [he] at hK; simpa [AV.strip] using hK⟩
  refine tcalls_walk Try.f11 _ [.tmp 4] Try.func11 rfl rfl rfl mixed (Nat.le_of_ble_eq_true rfl) rfl fun hlen => ?_
  by_cases h4 : m.kind = 4
  · repeat' (first | (simp -dsimp only [↓reduceIte, go_sem, h4]) | (refine arr_intro fun _ => ?_) | (refine later_intro ⟨keeps_nil, ?_⟩) | (refine later_intro ⟨keeps_refl, ?_⟩) | (with_reducible refine keeps_go ?_ ?_; focus (first | (simp [keeps_cons, keeps_none, objs_app, objs_app0]; done) | (simp only [keeps_cons, keeps_none, objs_app0, objs_app, and_true]; first | rfl | exact ⟨rfl, rfl⟩ | exact ⟨rfl, rfl, rfl⟩))) | (with_reducible refine (And.intro (a := keeps _ _ _) ?_ ?_); focus (first | (simp [keeps_cons, keeps_none, objs_app, objs_app0]; done) | (simp only [keeps_cons, keeps_none, objs_app0, objs_app, and_true]; first | rfl | exact ⟨rfl, rfl⟩ | exact ⟨rfl, rfl, rfl⟩))) | (refine both_ways ?_ ?_) | (rw [wrap_i64 (by omega) (by omega)]) | (refine guardV_split (fun h => ?_) (fun h => ?_) <;> (try rw [h]) <;> (try simp at h) <;> (try (exfalso; omega))))
    exact hfin _ _ (Ext.app _ _) (by simp [mineB, h4])
  · by_cases h5 : m.kind = 5
    · repeat' (first | (simp -dsimp only [↓reduceIte, go_sem, h4, h5]) | (refine arr_intro fun _ => ?_) | (refine later_intro ⟨keeps_nil, ?_⟩) | (refine later_intro ⟨keeps_refl, ?_⟩) | (with_reducible refine keeps_go ?_ ?_; focus (first | (simp [keeps_cons, keeps_none, objs_app, objs_app0]; done) | (simp only [keeps_cons, keeps_none, objs_app0, objs_app, and_true]; first | rfl | exact ⟨rfl, rfl⟩ | exact ⟨rfl, rfl, rfl⟩))) | (with_reducible refine (And.intro (a := keeps _ _ _) ?_ ?_); focus (first | (simp [keeps_cons, keeps_none, objs_app, objs_app0]; done) | (simp only [keeps_cons, keeps_none, objs_app0, objs_app, and_true]; first | rfl | exact ⟨rfl, rfl⟩ | exact ⟨rfl, rfl, rfl⟩))) | (refine both_ways ?_ ?_) | (rw [wrap_i64 (by omega) (by omega)]) | (refine guardV_split (fun h => ?_) (fun h => ?_) <;> (try rw [h]) <;> (try simp at h) <;> (try (exfalso; omega))))
      exact hfin _ _ (Ext.app _ _) (by simp [mineB, h5])
    · repeat' (first | (simp -dsimp only [↓reduceIte, go_sem, h4, h5]) | (refine arr_intro fun _ => ?_) | (refine later_intro ⟨keeps_nil, ?_⟩) | (refine later_intro ⟨keeps_refl, ?_⟩) | (with_reducible refine keeps_go ?_ ?_; focus (first | (simp [keeps_cons, keeps_none, objs_app, objs_app0]; done) | (simp only [keeps_cons, keeps_none, objs_app0, objs_app, and_true]; first | rfl | exact ⟨rfl, rfl⟩ | exact ⟨rfl, rfl, rfl⟩))) | (with_reducible refine (And.intro (a := keeps _ _ _) ?_ ?_); focus (first | (simp [keeps_cons, keeps_none, objs_app, objs_app0]; done) | (simp only [keeps_cons, keeps_none, objs_app0, objs_app, and_true]; first | rfl | exact ⟨rfl, rfl⟩ | exact ⟨rfl, rfl, rfl⟩))) | (refine both_ways ?_ ?_) | (rw [wrap_i64 (by omega) (by omega)]) | (refine guardV_split (fun h => ?_) (fun h => ?_) <;> (try rw [h]) <;> (try simp at h) <;> (try (exfalso; omega))))
      exact hfin _ _ (Ext.app _ _) (by simp [mineB, h4, h5])
end Go.Aff.L10

/- Layer 13, walked: put; what get does with one number. -/
-- cuts
namespace Go.Aff.L10
open Go.Proofs Go.Aff Go.Aff.L01 Classical
set_option linter.unusedVariables false
set_option linter.unusedSimpArgs false
set_option maxRecDepth 20000
attribute [local go_sem] push_app app_app length_app cellAt_app cellAt_app0 set_app set_app0 objs_app objs_app0 List.cons_append List.nil_append List.length_cons List.length_nil List.getElem?_cons_zero List.getElem?_cons_succ List.set_cons_zero List.set_cons_succ List.length_map
attribute [-go_sem] cellAt_new
attribute [-simp] List.length_flatMap
attribute [local go_sem] Try.underlying3 Try.underlying4 Try.underlying5 Try.underlying9 Try.underlying36 Try.underlying37 Try.underlying42 Try.underlying45 Try.underlying31 Try.underlying61 subPs_0 subAt_0 subSet_0 subPs_1 subAt_1 subSet_1 subPs_2 subAt_2 subSet_2 subPs_3 subAt_3 subSet_3 subPs_4 subAt_4 subSet_4 subPs_5 subAt_5 subSet_5 sizes_sub shapes_sub fits_sub zero_sub zt_sub built_sub Try.underlying41 pendPs_0 pendAt_0 pendSet_0 pendPs_1 pendAt_1 pendSet_1 pendPs_2 pendAt_2 pendSet_2 pendPs_3 pendAt_3 pendSet_3 pendPs_4 pendAt_4 pendSet_4 pendPs_5 pendAt_5 pendSet_5 sizes_pend shapes_pend fits_pend zero_pend zt_pend built_pend Try.underlying92 repPs_0 repAt_0 repSet_0 repPs_1 repAt_1 repSet_1 repPs_2 repAt_2 repSet_2 repPs_3 repAt_3 repSet_3 repPs_4 repAt_4 repSet_4 repPs_5 repAt_5 repSet_5 repPs_6 repAt_6 repSet_6 repPs_7 repAt_7 repSet_7 repPs_8 repAt_8 repSet_8 repPs_9 repAt_9 repSet_9 sizes_rep shapes_rep fits_rep zero_rep zt_rep built_rep Try.underlying44 blobPs_0 blobAt_0 blobSet_0 blobPs_1 blobAt_1 blobSet_1 blobPs_2 blobAt_2 blobSet_2 blobPs_3 blobAt_3 blobSet_3 sizes_blob shapes_blob fits_blob zero_blob zt_blob built_blob Try.underlying39 msgPs_0 msgAt_0 msgSet_0 msgPs_1 msgAt_1 msgSet_1 msgPs_2 msgAt_2 msgSet_2 msgPs_3 msgAt_3 msgSet_3 msgPs_4 msgAt_4 msgSet_4 msgPs_5 msgAt_5 msgSet_5 msgPs_6 msgAt_6 msgSet_6 msgPs_7 msgAt_7 msgSet_7 msgPs_8 msgAt_8 msgSet_8 msgPs_9 msgAt_9 msgSet_9 sizes_msg shapes_msg fits_msg zero_msg zt_msg built_msg Try.underlying47 at_Ps_0 at_Set_0 at_Ps_1 at_Set_1 sizes_at_ shapes_at_
attribute [local go_sem] fits3 fits4 fits5 fits9 fits23 fits26 fits31 fits34 fits52 zt3 zero3 zt34 zero34 zt23 zero23 bin_sub_eql bin_pend_eql bin_pend_neq bin_blob_eql bin_dig23_eql bin_dig23_neq slice23
attribute [local go_sem ↓] blockQ_exit2
attribute [local simp] dig_ext
attribute [local go_sem] bkeyPs_0 bkeyAt_0 bkeySet_0 bkeyPs_1 bkeyAt_1 bkeySet_1 sizes_bkey shapes_bkey fits_bkey zero_bkey zt_bkey built_bkey Try.underlying95 bin_blob_neq fits58 stAt zero60 zt60 built60 fits60 shape_mp Try.underlying97 Try.underlying99 Try.underlying28
attribute [local go_sem] fits26p fits28p fits22p fits76 fits24 fits51 srvPs_0 srvPs_1 srvPs_2 srvSet_0 srvSet_1 srvSet_2 srvAt_0 srvAt_1 srvAt_2 sizes_srv shapes_srv zero_srv zt_srv built_srv Try.underlying51 Try.underlying26 Try.underlying22 Try.underlying76 Try.underlying24
def msgX (x : Tk × Tk × Msg) : AV := msgV x.1 x.2.1 x.2.2
theorem msgX_mk {t u : Tk} {m : Msg} : msgX (t, u, m) = msgV t u m := rfl
theorem E24s : ElemT Try.prog 24 9 1 16 := ⟨rfl, by kernel_rfl, by kernel_rfl, ⟨_, of_eq_true (eq_true ⟨_, _, rfl, rfl, rfl, rfl, rfl⟩ : ZeroOf Try.prog 9 (.str []) = True)⟩, by decide⟩
theorem E76 : ElemT Try.prog 76 47 275 488 := ⟨rfl, by kernel_rfl, by kernel_rfl, ⟨_, of_eq_true zt_msg⟩, by decide⟩
theorem E45i : ElemT Try.prog 45 3 1 8 := ⟨rfl, by kernel_rfl, by kernel_rfl, ⟨_, of_eq_true zt3⟩, by decide⟩
theorem size_strs {l : List (List UInt8)} : ∀ v ∈ l.map AV.str, v.size = 1 := by
  intro v hv; obtain ⟨x, _, rfl⟩ := List.mem_map.1 hv; rfl
theorem size_msgs {l : List (Tk × Tk × Msg)} : ∀ v ∈ l.map msgX, v.size = 275 := by
  intro v hv; obtain ⟨x, _, rfl⟩ := List.mem_map.1 hv; simp only [msgX, AV.size, sizes_msg]
theorem size_nums {l : List Int} : ∀ v ∈ l.map (AV.int .i64), v.size = 1 := by
  intro v hv; obtain ⟨x, _, rfl⟩ := List.mem_map.1 hv; rfl
theorem append_str {a : List (List UInt8)} {x : List UInt8} {tk tk2 : Tk} {σ : AST} {K : AV → AST → Prop} (hca : canApp σ tk a.length 1) (hl : a.length ≤ 5000) (hK : K (.slice (growT σ tk) ((a ++ [x]).map AV.str)) (growS σ tk (a.length + 1) 1)) :
    appendW Try.prog ⟨[24, 24]⟩ (.slice tk (a.map AV.str)) (.slice tk2 [.str x]) σ K := by
  refine append_slice E24s rfl (by rw [List.length_map]; exact hca) (by intro v hv; simp at hv; subst hv; rfl) size_strs (by simp; omega) (by simp [maxL]; omega) ?_
  simpa using hK
theorem append_msg {a : List (Tk × Tk × Msg)} {t u : Tk} {m : Msg} {tk tk2 : Tk} {σ : AST} {K : AV → AST → Prop} (hca : canApp σ tk a.length 275) (hl : a.length ≤ 5000) (hK : K (.slice (growT σ tk) ((a ++ [(t, u, m)]).map msgX)) (growS σ tk (a.length + 1) 275)) :
    appendW Try.prog ⟨[76, 76]⟩ (.slice tk (a.map msgX)) (.slice tk2 [msgV t u m]) σ K := by
  refine append_slice E76 rfl (by rw [List.length_map]; exact hca) (by intro v hv; simp at hv; subst hv; simp only [AV.size, sizes_msg]) size_msgs (by simp; omega) (by simp [maxL]; omega) ?_
  simpa [msgX] using hK
theorem append_num {a : List Int} {x : Int} {tk tk2 : Tk} {σ : AST} {K : AV → AST → Prop} (hca : canApp σ tk a.length 1) (hl : a.length ≤ 5000) (hK : K (.slice (growT σ tk) ((a ++ [x]).map (AV.int .i64))) (growS σ tk (a.length + 1) 1)) :
    appendW Try.prog ⟨[45, 45]⟩ (.slice tk (a.map (AV.int .i64))) (.slice tk2 [.int .i64 x]) σ K := by
  refine append_slice E45i rfl (by rw [List.length_map]; exact hca) (by intro v hv; simp at hv; subst hv; rfl) size_nums (by simp; omega) (by simp [maxL]; omega) ?_
  simpa using hK
open Classical in
noncomputable def sentL (L : List (Tk × Tk × Msg)) : List (List UInt8) := (L.filter fun x => decide x.2.2.Ok).map (·.2.2.bytes)
theorem sentL_next {L : List (Tk × Tk × Msg)} {i : Nat} {x : Tk × Tk × Msg} (h : L[i]? = some x) : sentL (L.take (i + 1)) = sentL (L.take i) ++ (if x.2.2.Ok then [x.2.2.bytes] else []) := by
  have hi := (List.getElem?_eq_some_iff.1 h).1
  have e : L.take (i + 1) = L.take i ++ [x] := by rw [← (List.getElem?_eq_some_iff.1 h).2]; exact (List.take_append_getElem hi).symm
  rw [e]
  by_cases hx : x.2.2.Ok
  · simp [sentL, hx]
  · simp [sentL, hx]
theorem sentL_len {L : List (Tk × Tk × Msg)} : (sentL L).length ≤ L.length := by unfold sentL; rw [List.length_map]; exact List.length_filter_le ..
theorem send_c {L : List (Tk × Tk × Msg)} {tq : Tk} {σ : AST} {K : AV → AST → Prop} (hl : L.length ≤ 1000) (hK : ∀ s' t, Ext σ s' → K (.slice t ((sentL L).map AV.str)) s') : TCalls Try.prog 30 [.slice tq (L.map msgX)] σ K := by
  refine tcalls_walk Try.f30 _ [.tmp 2] Try.func30 rfl rfl rfl mixed (Nat.le_of_ble_eq_true rfl) rfl fun hlen => ?_
  repeat' (first | (simp -dsimp only [↓reduceIte, go_sem]) | (refine arr_intro fun _ => ?_) | (refine later_intro ⟨keeps_nil, ?_⟩) | (refine later_intro ⟨keeps_refl, ?_⟩) | (with_reducible refine keeps_go ?_ ?_; focus (first | (simp [keeps_cons, keeps_none, objs_app, objs_app0]; done) | (simp only [keeps_cons, keeps_none, objs_app0, objs_app, and_true]; first | rfl | exact ⟨rfl, rfl⟩ | exact ⟨rfl, rfl, rfl⟩))) | (with_reducible refine (And.intro (a := keeps _ _ _) ?_ ?_); focus (first | (simp [keeps_cons, keeps_none, objs_app, objs_app0]; done) | (simp only [keeps_cons, keeps_none, objs_app0, objs_app, and_true]; first | rfl | exact ⟨rfl, rfl⟩ | exact ⟨rfl, rfl, rfl⟩))) | (refine both_ways ?_ ?_) | (rw [wrap_i64 (by omega) (by omega)]) | (refine guardV_split (fun h => ?_) (fun h => ?_) <;> (try rw [h]) <;> (try simp at h) <;> (try (exfalso; omega))))
  refine awp_rounds (fun (i : Nat) τ s => ∃ tk, i ≤ L.length ∧ Gr σ s tk (sentL (L.take i)).length ∧ τ 3 = .slice tk ((sentL (L.take i)).map AV.str) ∧ τ 8 = .slice tq (L.map msgX) ∧ τ 9 = .int .i64 L.length ∧ τ 10 = .int .i64 i) (fun i => L.length - i) 0 ?_ ?_
  · refine ⟨.full, by omega, Gr.start, ?_, ?_, ?_, ?_⟩ <;> (try simp only [go_sem]) <;> (try rfl)
  · rintro i τ s ⟨tk, hi, hg, t3, t8, t9, t10⟩
    by_cases hlt : i < L.length
    · have hlt1 : (i : Int) < L.length := by omega
      obtain ⟨x, hx⟩ : ∃ x, L[i]? = some x := ⟨_, List.getElem?_eq_getElem hlt⟩
      obtain ⟨t, u, m⟩ := x
      have hnx := sentL_next hx
      have hsl := sentL_len (L := L.take i)
      rw [List.length_take] at hsl
      have w1 : IntKind.i64.wrap ((i : Int) + 1) = (i : Int) + 1 := wrap_i64 (by omega) (by omega)
      have hga := fun l => hg.app (l := l)
      simp only at hnx
      repeat' (first | (simp -dsimp only [↓reduceIte, go_sem, t3, t8, t9, t10, hlt1, w1, msgX_mk]) | (refine arr_intro fun _ => ?_) | (refine later_intro ⟨keeps_nil, ?_⟩) | (refine later_intro ⟨keeps_refl, ?_⟩) | (with_reducible refine keeps_go ?_ ?_; focus (first | (simp [keeps_cons, keeps_none, objs_app, objs_app0]; done) | (simp only [keeps_cons, keeps_none, objs_app0, objs_app, and_true]; first | rfl | exact ⟨rfl, rfl⟩ | exact ⟨rfl, rfl, rfl⟩))) | (with_reducible refine (And.intro (a := keeps _ _ _) ?_ ?_); focus (first | (simp [keeps_cons, keeps_none, objs_app, objs_app0]; done) | (simp only [keeps_cons, keeps_none, objs_app0, objs_app, and_true]; first | rfl | exact ⟨rfl, rfl⟩ | exact ⟨rfl, rfl, rfl⟩))) | (refine both_ways ?_ ?_) | (rw [wrap_i64 (by omega) (by omega)]) | (refine guardV_split (fun h => ?_) (fun h => ?_) <;> (try rw [h]) <;> (try simp at h) <;> (try (exfalso; omega))) | (refine nth_get hx ?_))
      refine put_c ?_
      by_cases hok : m.Ok
      · rw [if_pos hok] at hnx ⊢
        repeat' (first | (simp -dsimp only [↓reduceIte, go_sem, t3, t8, t9, t10, w1]) | (refine arr_intro fun _ => ?_) | (refine later_intro ⟨keeps_nil, ?_⟩) | (refine later_intro ⟨keeps_refl, ?_⟩) | (with_reducible refine keeps_go ?_ ?_; focus (first | (simp [keeps_cons, keeps_none, objs_app, objs_app0]; done) | (simp only [keeps_cons, keeps_none, objs_app0, objs_app, and_true]; first | rfl | exact ⟨rfl, rfl⟩ | exact ⟨rfl, rfl, rfl⟩))) | (with_reducible refine (And.intro (a := keeps _ _ _) ?_ ?_); focus (first | (simp [keeps_cons, keeps_none, objs_app, objs_app0]; done) | (simp only [keeps_cons, keeps_none, objs_app0, objs_app, and_true]; first | rfl | exact ⟨rfl, rfl⟩ | exact ⟨rfl, rfl, rfl⟩))) | (refine both_ways ?_ ?_) | (rw [wrap_i64 (by omega) (by omega)]) | (refine guardV_split (fun h => ?_) (fun h => ?_) <;> (try rw [h]) <;> (try simp at h) <;> (try (exfalso; omega))) | (refine build_slice E24s rfl (by decide) (by intro v hv; simp at hv; subst hv; simp [go_sem]) ?_) | (refine append_str (hga _).c (by omega) ?_))
        have h2 := (hga [.cells (msgV t u m)]).grow (m := (sentL (L.take i)).length + 1)
        refine later_intro ⟨i + 1, by omega, growT (s.app [.cells (msgV t u m)]) tk, by omega, ?_, ?_, ?_, ?_, ?_⟩ <;> (try simp only [go_sem, t3, t8, t9, t10, hnx]) <;> (try rfl)
        rw [List.length_append]; exact h2
      · rw [if_neg hok] at hnx ⊢
        rw [List.append_nil] at hnx
        repeat' (first | (simp -dsimp only [↓reduceIte, go_sem, t3, t8, t9, t10, w1]) | (refine arr_intro fun _ => ?_) | (refine later_intro ⟨keeps_nil, ?_⟩) | (refine later_intro ⟨keeps_refl, ?_⟩) | (with_reducible refine keeps_go ?_ ?_; focus (first | (simp [keeps_cons, keeps_none, objs_app, objs_app0]; done) | (simp only [keeps_cons, keeps_none, objs_app0, objs_app, and_true]; first | rfl | exact ⟨rfl, rfl⟩ | exact ⟨rfl, rfl, rfl⟩))) | (with_reducible refine (And.intro (a := keeps _ _ _) ?_ ?_); focus (first | (simp [keeps_cons, keeps_none, objs_app, objs_app0]; done) | (simp only [keeps_cons, keeps_none, objs_app0, objs_app, and_true]; first | rfl | exact ⟨rfl, rfl⟩ | exact ⟨rfl, rfl, rfl⟩))) | (refine both_ways ?_ ?_) | (rw [wrap_i64 (by omega) (by omega)]) | (refine guardV_split (fun h => ?_) (fun h => ?_) <;> (try rw [h]) <;> (try simp at h) <;> (try (exfalso; omega))))
        refine later_intro ⟨i + 1, by omega, tk, by omega, ?_, ?_, ?_, ?_, ?_⟩ <;> (try simp only [go_sem, t3, t8, t9, t10, hnx]) <;> (try rfl)
        exact hga _
    · obtain rfl : i = L.length := by omega
      have hlt1 : ¬ ((L.length : Nat) : Int) < L.length := by omega
      rw [List.take_length] at t3
      repeat' (first | (simp -dsimp only [↓reduceIte, go_sem, t3, t8, t9, t10, hlt1]) | (refine arr_intro fun _ => ?_) | (refine later_intro ⟨keeps_nil, ?_⟩) | (refine later_intro ⟨keeps_refl, ?_⟩) | (with_reducible refine keeps_go ?_ ?_; focus (first | (simp [keeps_cons, keeps_none, objs_app, objs_app0]; done) | (simp only [keeps_cons, keeps_none, objs_app0, objs_app, and_true]; first | rfl | exact ⟨rfl, rfl⟩ | exact ⟨rfl, rfl, rfl⟩))) | (with_reducible refine (And.intro (a := keeps _ _ _) ?_ ?_); focus (first | (simp [keeps_cons, keeps_none, objs_app, objs_app0]; done) | (simp only [keeps_cons, keeps_none, objs_app0, objs_app, and_true]; first | rfl | exact ⟨rfl, rfl⟩ | exact ⟨rfl, rfl, rfl⟩))) | (refine both_ways ?_ ?_) | (rw [wrap_i64 (by omega) (by omega)]) | (refine guardV_split (fun h => ?_) (fun h => ?_) <;> (try rw [h]) <;> (try simp at h) <;> (try (exfalso; omega))))
      exact hK _ _ hg.x
end Go.Aff.L10

