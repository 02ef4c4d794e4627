import Derived.Test.YtikbkaedemmpmaaGreatG11
import Derived.Test.YtikbkaedemmpmaaGreatG8

set_option linter.unusedSimpArgs false
set_option linter.unusedVariables false

namespace Go.Aff.L10
open Go.Proofs Go.Aff Go.Aff.L01 Classical
set_option maxRecDepth 20000
attribute [-go_sem] cellAt_new
attribute [-simp] List.length_flatMap
attribute [local go_sem] Tryz.underlying3 Tryz.underlying5 Tryz.underlying9 Tryz.underlying32 Tryz.underlying35 Tryz.underlying40 Tryz.underlying123 subPs_0 subAt_0 subPs_1 subAt_1 subPs_2 subAt_2 subPs_3 subAt_3 subPs_4 subAt_4 subPs_5 subAt_5 sizes_sub shapes_sub fits_sub zero_sub zt_sub built_sub Tryz.underlying34 pendPs_0 pendAt_0 pendPs_1 pendAt_1 pendPs_2 pendAt_2 pendPs_3 pendAt_3 pendPs_4 pendAt_4 pendPs_5 pendAt_5 sizes_pend shapes_pend fits_pend zero_pend zt_pend Tryz.underlying138 repPs_0 repAt_0 repPs_1 repAt_1 repPs_2 repAt_2 repPs_3 repAt_3 repPs_4 repAt_4 repPs_5 repAt_5 repPs_6 repAt_6 repPs_7 repAt_7 repPs_8 repAt_8 repPs_9 repAt_9 sizes_rep shapes_rep fits_rep zero_rep zt_rep built_rep Tryz.underlying37 blobPs_0 blobAt_0 blobPs_1 blobAt_1 blobPs_2 blobAt_2 blobPs_3 blobAt_3 sizes_blob shapes_blob fits_blob zero_blob zt_blob built_blob Tryz.underlying39 msgPs_0 msgAt_0 msgSet_0 msgPs_1 msgAt_1 msgSet_1 msgPs_2 msgAt_2 msgSet_2 msgPs_3 msgAt_3 msgSet_3 msgPs_4 msgAt_4 msgSet_4 msgPs_5 msgAt_5 msgSet_5 msgPs_6 msgAt_6 msgSet_6 msgPs_7 msgAt_7 msgSet_7 msgPs_8 msgAt_8 msgSet_8 msgPs_9 msgAt_9 sizes_msg shapes_msg fits_msg zero_msg zt_msg built_msg Tryz.underlying42
attribute [local go_sem] fits3 fits5 fits9 fits23 fits26 fits31 zt23 zero23 bin_sub_eql bin_pend_neq bin_blob_eql bin_dig23_eql bin_dig23_neq
attribute [local simp] dig_ext
theorem built23 : Built Tryz.prog 32 = True := eq_true (by unfold Built; rw [Tryz.underlying32]; decide +kernel)
theorem msgSet_9n {m : Msg} {t u v : Tk} : (msgPs t u m).set 9 (.slice v []) = msgPs t v { m with nums := [] } := rfl
attribute [local go_sem] bin_bool_ne appc appn built23 msgSet_9n

def Msg.bare (m : Msg) : Msg :=
  if m.kind = 1 then { m with sub := sub0 }
  else if m.kind = 2 then { m with rep := rep0 }
  else if m.kind = 3 then { m with view := [], tag := dig0 }
  else if m.kind = 4 ∨ m.kind = 6 then { m with blob := blob0 }
  else if m.kind = 5 ∨ m.kind = 7 ∨ m.kind = 8 then { m with nums := [] }
  else if m.kind = 10 then { m with by_ := 0, view := [], tag := dig0, own := dig0 }
  else if m.kind = 11 then { m with own := dig0 }
  else m
def Msg.head (m : Msg) : Msg := { msg0 with kind := m.kind, client := m.client }
theorem bare_c {m : Msg} (hw : -9223372036854775808 ≤ m.by_ ∧ m.by_ ≤ 9223372036854775807) {t u : Tk} {σ : AST} {K : AV → AST → Prop} (hK : ∀ t' u', K (msgV t' u' m.bare) σ) : TCalls Tryz.prog 63 [msgV t u m] σ K := by
  refine TCalls.drop ?_
  refine tcalls_walk Tryz.f63 _ [.cell 2 42] Tryz.func63 rfl rfl rfl mixed (Nat.le_of_ble_eq_true rfl) rfl fun hlen => ?_
  repeat' (first | (simp -dsimp only [↓reduceIte, go_sem]) | (rw [wrap_i64 (by omega) (by omega)]) | (refine guardV_split (fun h => ?_) (fun h => ?_) <;> (try rw [h]) <;> (try simp at h) <;> (try (exfalso; omega))))
  all_goals
    refine ⟨Ext.app _ _, ?_, ?_⟩
    · simp [AV.noRef, AV.noRefs, msgPs, repPs, subPs, blobPs, noRefs_pends, noRefs_ints, msg0, rep0, sub0, blob0]
    · simp only [AV.strip, AV.strips, msg_strips]
      have key : ∀ {x : Msg} {t' u' : Tk}, x = m.bare → K (msgV t' u' x) σ := fun {x t' u'} h1 => by rw [h1]; exact hK t' u'
      refine key ?_
      simp_all [Msg.bare]
def Msg.Fields2 (m : Msg) : Prop :=
  if m.kind = 1 then (In 1 512 m.sub.num ∧ In 1 2 m.sub.kind ∧ In 0 7 m.sub.target) ∧ m.sub.value.length ≤ 256
  else if m.kind = 2 then m.client = 0 ∧ m.rep.Ok
  else if m.kind = 3 then m.view ≠ [] ∧ ViewOk 8 m.view
  else if m.kind = 4 ∨ m.kind = 6 then m.client = 0 ∧ In 0 7 m.blob.owner ∧ In 0 1099511627776 m.blob.num ∧ m.blob.cipher.length ≤ 4096
  else if m.kind = 5 ∨ m.kind = 7 ∨ m.kind = 8 then NumsOk m.nums
  else if m.kind = 10 then In 0 7 m.by_ ∧ m.view ≠ [] ∧ ViewOk 8 m.view
  else True
theorem Msg.ok_iff {m : Msg} : m.Ok ↔ In 1 11 m.kind ∧ In 0 7 m.client ∧ m.bare = m.head ∧ m.Fields2 := by
  unfold Msg.Ok
  by_cases k : m.kind = 1 ∨ m.kind = 2 ∨ m.kind = 3 ∨ m.kind = 4 ∨ m.kind = 5 ∨ m.kind = 6 ∨ m.kind = 7 ∨ m.kind = 8 ∨ m.kind = 9 ∨ m.kind = 10 ∨ m.kind = 11
  · rcases k with k | k | k | k | k | k | k | k | k | k | k
    all_goals
      simp only [Msg.FieldsOk, Msg.own_, Msg.bare, Msg.head, Msg.Fields2, k, Msg.iff, Sub.Ok, Blob.Ok]
      have hin : In 1 11 m.kind := by rw [k]; simp [In]
      rw [k] at hin
      simp [msg0, hin]
      try grind
  · have h1 : ¬ m.FieldsOk := by
      unfold Msg.FieldsOk
      simp_all
    have h2 : ¬ In 1 11 m.kind := by unfold In; omega
    simp [h1, h2]
theorem refRight_c {m : Msg} (hw : -9223372036854775808 ≤ m.by_ ∧ m.by_ ≤ 9223372036854775807) {t u : Tk} {σ : AST} {K : AV → AST → Prop} (hK : K (.bool (decide m.Ok)) σ) : TCalls Tryz.prog 29 [msgV t u m] σ K := by
  refine TCalls.drop ?_
  refine tcalls_walk Tryz.f29 _ [.tmp 2] Tryz.func29 rfl rfl rfl mixed (Nat.le_of_ble_eq_true rfl) rfl fun hlen => ?_
  repeat' (first | (simp -dsimp only [↓reduceIte, go_sem]) | (refine arr_intro fun _ => ?_) | (refine guardV_split (fun h => ?_) (fun h => ?_) <;> (try rw [h]) <;> (try simp at h) <;> (try (exfalso; omega))) | (with_reducible refine awp_drawS (id := 1) [0, 1, 2, 3, 4, 5, 6, 7, 8, 9, 10, 11, 13, 14, 15, 16, 17, 12, 18, 19, 20] (by kernel_rfl) ?_) | (refine Within_c ?_) | (refine bare_c hw fun t' u' => ?_) | (refine refSame_c (b := m.head) ?_) | (refine asks_c ?_) | (refine refReply_c ?_) | (refine refHist_c (by omega) (by omega) ?_) | (refine refNums_c ?_))
  all_goals refine bool_endDX (Ext.app _ _) hK ?_
  all_goals rw [Msg.ok_iff]
  all_goals first | (simp_all [Msg.Fields2, -not_and] <;> fail) | (simp_all [Msg.Fields2]; omega) | (simp_all [Msg.Fields2] <;> grind)
structure Cli where
  last : Sub
  reply : Rep
  view : List UInt8
  tag : Dig
def cli0 : Cli := ⟨sub0, rep0, [], dig0⟩
def cliPs (t0 : Tk) (x : Cli) : List AV := [.agg (subPs x.last), .agg (repPs t0 x.reply), .str x.view, .dig x.tag]
abbrev cliV (t0 : Tk) (x : Cli) : AV := .agg (cliPs t0 x)
theorem cliPs_0 {t0 : Tk} {x : Cli} : (cliPs t0 x)[0]? = some (.agg (subPs x.last)) := nr rfl
theorem cliAt_0 {t0 : Tk} {x : Cli} {v : AV} : partIs Tryz.prog 99 (cliPs t0 x) 0 v = fits Tryz.prog 34 v := by rw [partIs_of (o := 0) (T := 34) (by kernel_rfl)]; simp [cliPs, AV.sizes, AV.size]
theorem cliPs_1 {t0 : Tk} {x : Cli} : (cliPs t0 x)[1]? = some (.agg (repPs t0 x.reply)) := nr rfl
theorem cliAt_1 {t0 : Tk} {x : Cli} {v : AV} : partIs Tryz.prog 99 (cliPs t0 x) 1 v = fits Tryz.prog 37 v := by rw [partIs_of (o := 68) (T := 37) (by kernel_rfl)]; simp [cliPs, AV.sizes, AV.size, sizes_sub]
theorem cliPs_2 {t0 : Tk} {x : Cli} : (cliPs t0 x)[2]? = some (.str x.view) := nr rfl
theorem cliAt_2 {t0 : Tk} {x : Cli} {v : AV} : partIs Tryz.prog 99 (cliPs t0 x) 2 v = fits Tryz.prog 9 v := by rw [partIs_of (o := 171) (T := 9) (by kernel_rfl)]; simp [cliPs, AV.sizes, AV.size, sizes_sub, sizes_rep]
theorem cliPs_3 {t0 : Tk} {x : Cli} : (cliPs t0 x)[3]? = some (.dig x.tag) := nr rfl
theorem cliAt_3 {t0 : Tk} {x : Cli} {v : AV} : partIs Tryz.prog 99 (cliPs t0 x) 3 v = fits Tryz.prog 32 v := by rw [partIs_of (o := 172) (T := 32) (by kernel_rfl)]; simp [cliPs, AV.sizes, AV.size, sizes_sub, sizes_rep]
theorem sizes_cli {t0 : Tk} {x : Cli} : AV.sizes (cliPs t0 x) = 204 := by simp [cliPs, AV.sizes, AV.size, sizes_sub, sizes_rep]
theorem shapes_cli {t0 : Tk} {x : Cli} : AV.shapes (cliPs t0 x) = [.node [.leaf, .leaf, .leaf, .leaf, .dig, .dig], .node [.leaf, .leaf, .leaf, .dig, .leaf, .leaf, .leaf, .dig, .leaf, .dig], .leaf, .dig] := by simp [cliPs, AV.shapes, AV.shape, shapes_sub, shapes_rep]
theorem fits_cli {v : AV} : fits Tryz.prog 99 v = (v.isAgg = true ∧ v.size = 204) := fits_agg (by kernel_rfl) (by kernel_rfl)
theorem zero_cli : zeroA Tryz.prog 12 99 = .agg (cliPs .full cli0) := by kernel_rfl
theorem zt_cli : ZeroOf Tryz.prog 99 (.agg (cliPs .full cli0)) = True := eq_true ⟨_, _, rfl, rfl, rfl, rfl, rfl⟩
structure Rg where
  n : Int
  cs : List (Tk × Cli)
  by_ : Int
  long : List UInt8
  tag : Dig
  pend : List Pend
def cliP (c : Tk × Cli) : AV := cliV c.1 c.2
def rgPs (t0 : Tk) (x : Rg) : List AV := [.int .i64 x.n, .agg (x.cs.map cliP), .int .i64 x.by_, .str x.long, .dig x.tag, .slice t0 (x.pend.map pendV)]
abbrev rgV (t0 : Tk) (x : Rg) : AV := .agg (rgPs t0 x)
theorem sizes_clis {cs : List (Tk × Cli)} : AV.sizes (cs.map cliP) = cs.length * 204 := by
  induction cs with
  | nil => rfl
  | cons c cs ih => simp only [List.map_cons, AV.sizes, ih, cliP, AV.size, sizes_cli, List.length_cons]; omega
def rg0 : Rg := ⟨0, List.replicate 8 (.full, cli0), 0, [], dig0, []⟩
section
variable {t0 u0 : Tk} {x : Rg} {v : AV}
theorem rgPs_0 : (rgPs t0 x)[0]? = some (.int .i64 x.n) := nr rfl
theorem rgPs_1 : (rgPs t0 x)[1]? = some (.agg (x.cs.map cliP)) := nr rfl
theorem rgPs_2 : (rgPs t0 x)[2]? = some (.int .i64 x.by_) := nr rfl
theorem rgPs_3 : (rgPs t0 x)[3]? = some (.str x.long) := nr rfl
theorem rgPs_4 : (rgPs t0 x)[4]? = some (.dig x.tag) := nr rfl
theorem rgPs_5 : (rgPs t0 x)[5]? = some (.slice t0 (x.pend.map pendV)) := nr rfl
theorem rgSet_0 {y : Int} : (rgPs t0 x).set 0 (.int .i64 y) = rgPs t0 { x with n := y } := nr rfl
theorem rgSet_2 {y : Int} : (rgPs t0 x).set 2 (.int .i64 y) = rgPs t0 { x with by_ := y } := nr rfl
theorem rgSet_3 {y : List UInt8} : (rgPs t0 x).set 3 (.str y) = rgPs t0 { x with long := y } := nr rfl
theorem rgSet_4 {y : Dig} : (rgPs t0 x).set 4 (.dig y) = rgPs t0 { x with tag := y } := nr rfl
theorem rgSet_5 {y : List Pend} : (rgPs t0 x).set 5 (.slice u0 (y.map pendV)) = rgPs u0 { x with pend := y } := nr rfl
theorem rgAt_0 : partIs Tryz.prog 102 (rgPs t0 x) 0 v = fits Tryz.prog 3 v := by rw [partIs_of (o := 0) (T := 3) (by kernel_rfl)]; simp [rgPs, AV.sizes, AV.size]
theorem rgAt_1 : partIs Tryz.prog 102 (rgPs t0 x) 1 v = fits Tryz.prog 100 v := by rw [partIs_of (o := 1) (T := 100) (by kernel_rfl)]; simp [rgPs, AV.sizes, AV.size]
theorem rgAt_2 (h : x.cs.length = 8) : partIs Tryz.prog 102 (rgPs t0 x) 2 v = fits Tryz.prog 3 v := by rw [partIs_of (o := 1633) (T := 3) (by kernel_rfl)]; simp [rgPs, AV.sizes, AV.size, sizes_clis, h]
theorem rgAt_3 (h : x.cs.length = 8) : partIs Tryz.prog 102 (rgPs t0 x) 3 v = fits Tryz.prog 9 v := by rw [partIs_of (o := 1634) (T := 9) (by kernel_rfl)]; simp [rgPs, AV.sizes, AV.size, sizes_clis, h]
theorem rgAt_4 (h : x.cs.length = 8) : partIs Tryz.prog 102 (rgPs t0 x) 4 v = fits Tryz.prog 32 v := by rw [partIs_of (o := 1635) (T := 32) (by kernel_rfl)]; simp [rgPs, AV.sizes, AV.size, sizes_clis, h]
theorem rgAt_5 (h : x.cs.length = 8) : partIs Tryz.prog 102 (rgPs t0 x) 5 v = fits Tryz.prog 35 v := by rw [partIs_of (o := 1667) (T := 35) (by kernel_rfl)]; simp [rgPs, AV.sizes, AV.size, sizes_clis, h]
end
theorem zero_rg : zeroA Tryz.prog 12 102 = .agg (rgPs .full rg0) := by kernel_rfl
theorem zt_rg : ZeroOf Tryz.prog 102 (.agg (rgPs .full rg0)) = True := eq_true ⟨_, _, rfl, rfl, rfl, rfl, rfl⟩
theorem built_rg : Built Tryz.prog 102 = True := eq_true (by unfold Built; rw [Tryz.underlying102]; decide +kernel)
theorem fits66 {v : AV} : fits Tryz.prog 100 v = (v.isAgg = true ∧ v.size = 1632) := fits_agg (by kernel_rfl) (by kernel_rfl)
def arrV : Option (Nat × Nat) → AV
  | none => .slice .full []
  | some (i, n) => .arr i [] n
theorem arrV_none : arrV none = .slice .full [] := rfl
theorem arrV_some {i n : Nat} : arrV (some (i, n)) = .arr i [] n := rfl
theorem arrV_size {o : Option (Nat × Nat)} : (arrV o).size = 1 := by cases o <;> rfl
theorem arrV_shape {o : Option (Nat × Nat)} : (arrV o).shape = .leaf := by cases o <;> rfl
structure RRg where
  subs : Option (Nat × Nat)
  reps : Option (Nat × Nat)
  views : Option (Nat × Nat)
  tags : Option (Nat × Nat)
  by_ : Int
  long : List UInt8
  tag : Dig
  pend : List Pend
def rrg0 : RRg := ⟨none, none, none, none, 0, [], dig0, []⟩
def rrgPs (t0 : Tk) (x : RRg) : List AV := [arrV x.subs, arrV x.reps, arrV x.views, arrV x.tags, .int .i64 x.by_, .str x.long, .dig x.tag, .slice t0 (x.pend.map pendV)]
abbrev rrgV (t0 : Tk) (x : RRg) : AV := .agg (rrgPs t0 x)
section
variable {t0 u0 : Tk} {x : RRg} {v : AV}
theorem rrgPs_0 : (rrgPs t0 x)[0]? = some (arrV x.subs) := nr rfl
theorem rrgPs_1 : (rrgPs t0 x)[1]? = some (arrV x.reps) := nr rfl
theorem rrgPs_2 : (rrgPs t0 x)[2]? = some (arrV x.views) := nr rfl
theorem rrgPs_3 : (rrgPs t0 x)[3]? = some (arrV x.tags) := nr rfl
theorem rrgPs_4 : (rrgPs t0 x)[4]? = some (.int .i64 x.by_) := nr rfl
theorem rrgPs_5 : (rrgPs t0 x)[5]? = some (.str x.long) := nr rfl
theorem rrgPs_6 : (rrgPs t0 x)[6]? = some (.dig x.tag) := nr rfl
theorem rrgPs_7 : (rrgPs t0 x)[7]? = some (.slice t0 (x.pend.map pendV)) := nr rfl
theorem rrgSet_0 {i n : Nat} : (rrgPs t0 x).set 0 (.arr i [] n) = rrgPs t0 { x with subs := some (i, n) } := nr rfl
theorem rrgSet_1 {i n : Nat} : (rrgPs t0 x).set 1 (.arr i [] n) = rrgPs t0 { x with reps := some (i, n) } := nr rfl
theorem rrgSet_2 {i n : Nat} : (rrgPs t0 x).set 2 (.arr i [] n) = rrgPs t0 { x with views := some (i, n) } := nr rfl
theorem rrgSet_3 {i n : Nat} : (rrgPs t0 x).set 3 (.arr i [] n) = rrgPs t0 { x with tags := some (i, n) } := nr rfl
theorem rrgSet_4 {y : Int} : (rrgPs t0 x).set 4 (.int .i64 y) = rrgPs t0 { x with by_ := y } := nr rfl
theorem rrgSet_5 {y : List UInt8} : (rrgPs t0 x).set 5 (.str y) = rrgPs t0 { x with long := y } := nr rfl
theorem rrgSet_6 {y : Dig} : (rrgPs t0 x).set 6 (.dig y) = rrgPs t0 { x with tag := y } := nr rfl
theorem rrgSet_7 {y : List Pend} : (rrgPs t0 x).set 7 (.slice u0 (y.map pendV)) = rrgPs u0 { x with pend := y } := nr rfl
theorem rrgAt_0 : partIs Tryz.prog 84 (rrgPs t0 x) 0 v = fits Tryz.prog 80 v := by rw [partIs_of (o := 0) (T := 80) (by kernel_rfl)]; simp [rrgPs, AV.sizes, AV.size, arrV_size]
theorem rrgAt_1 : partIs Tryz.prog 84 (rrgPs t0 x) 1 v = fits Tryz.prog 81 v := by rw [partIs_of (o := 1) (T := 81) (by kernel_rfl)]; simp [rrgPs, AV.sizes, AV.size, arrV_size]
theorem rrgAt_2 : partIs Tryz.prog 84 (rrgPs t0 x) 2 v = fits Tryz.prog 46 v := by rw [partIs_of (o := 2) (T := 46) (by kernel_rfl)]; simp [rrgPs, AV.sizes, AV.size, arrV_size]
theorem rrgAt_3 : partIs Tryz.prog 84 (rrgPs t0 x) 3 v = fits Tryz.prog 82 v := by rw [partIs_of (o := 3) (T := 82) (by kernel_rfl)]; simp [rrgPs, AV.sizes, AV.size, arrV_size]
theorem rrgAt_4 : partIs Tryz.prog 84 (rrgPs t0 x) 4 v = fits Tryz.prog 3 v := by rw [partIs_of (o := 4) (T := 3) (by kernel_rfl)]; simp [rrgPs, AV.sizes, AV.size, arrV_size]
theorem rrgAt_5 : partIs Tryz.prog 84 (rrgPs t0 x) 5 v = fits Tryz.prog 9 v := by rw [partIs_of (o := 5) (T := 9) (by kernel_rfl)]; simp [rrgPs, AV.sizes, AV.size, arrV_size]
theorem rrgAt_6 : partIs Tryz.prog 84 (rrgPs t0 x) 6 v = fits Tryz.prog 32 v := by rw [partIs_of (o := 6) (T := 32) (by kernel_rfl)]; simp [rrgPs, AV.sizes, AV.size, arrV_size]
theorem rrgAt_7 : partIs Tryz.prog 84 (rrgPs t0 x) 7 v = fits Tryz.prog 35 v := by rw [partIs_of (o := 38) (T := 35) (by kernel_rfl)]; simp [rrgPs, AV.sizes, AV.size, arrV_size]
end
theorem zero_rrg : zeroA Tryz.prog 12 84 = .agg (rrgPs .full rrg0) := by kernel_rfl
theorem zt_rrg : ZeroOf Tryz.prog 84 (.agg (rrgPs .full rrg0)) = True := eq_true ⟨_, _, rfl, rfl, rfl, rfl, rfl⟩
theorem built_rrg : Built Tryz.prog 84 = True := eq_true (by unfold Built; rw [Tryz.underlying84]; decide +kernel)
theorem fits57 {v : AV} : fits Tryz.prog 80 v = (v.isAgg = false ∧ v.size = 1) := fits_leaf (by kernel_rfl) (by kernel_rfl)
theorem fits58x {v : AV} : fits Tryz.prog 81 v = (v.isAgg = false ∧ v.size = 1) := fits_leaf (by kernel_rfl) (by kernel_rfl)
theorem fits39 {v : AV} : fits Tryz.prog 46 v = (v.isAgg = false ∧ v.size = 1) := fits_leaf (by kernel_rfl) (by kernel_rfl)
theorem fits59 {v : AV} : fits Tryz.prog 82 v = (v.isAgg = false ∧ v.size = 1) := fits_leaf (by kernel_rfl) (by kernel_rfl)
theorem fits23r {v : AV} : fits Tryz.prog 53 v = (v.isAgg = false ∧ v.size = 1) := fits_leaf (by kernel_rfl) (by kernel_rfl)
attribute [local go_sem] cliPs_0 cliAt_0 cliPs_2 cliAt_2 sizes_cli fits_cli rgPs_0 rgPs_1 rgAt_0 rgAt_1 fits66 arrV_none arrV_some Tryz.underlying53 Tryz.underlying99 Tryz.underlying100 Tryz.underlying102
section
variable {s : AST} {j k : Nat} {o : AObj} {v : AV} {p : List Nat}
theorem cellAt_setSx (h : k < s.objs.length) : cellAt (s.set k (.cells v)) k p = v.at p := cellAt_known (by simp only [AST.set]; rw [List.getElem?_set_self h]) p
theorem cellAt_setNx (h : j ≠ k) : cellAt (s.set j o) k p = cellAt s k p := by simp only [cellAt, AST.set]; rw [List.getElem?_set_ne h]
theorem objs_setSx (h : k < s.objs.length) : (s.set k o).objs[k]? = some o := by simp only [AST.set]; rw [List.getElem?_set_self h]
theorem objs_setNx (h : j ≠ k) : (s.set j o).objs[k]? = s.objs[k]? := by simp only [AST.set]; rw [List.getElem?_set_ne h]
end
theorem ext_known {a b : AST} {k : Nat} {o : AObj} (h : Ext a b) (ho : a.objs[k]? = some o) : b.objs[k]? = some o := by
  obtain ⟨O, T, rfl⟩ := h
  rw [List.getElem?_append_left (List.getElem?_eq_some_iff.1 ho).1]; exact ho
structure PF (σ0 s : AST) (j : Nat) (R : Rg) (F : List (Nat × AObj)) : Prop where
  x : Ext σ0 s
  jn : σ0.objs.length ≤ j
  h8 : R.cs.length = 8
  o : ∃ tk, s.objs[j]? = some (.cells (rgV tk R))
  f : ∀ x ∈ F, x.1 ≠ j ∧ s.objs[x.1]? = some x.2
theorem PF.ext {σ0 s s2 : AST} {j : Nat} {R : Rg} {F : List (Nat × AObj)} (h : PF σ0 s j R F) (e : Ext s s2) : PF σ0 s2 j R F := by
  obtain ⟨t, o⟩ := h.o
  exact ⟨h.x.trans e, h.jn, h.h8, ⟨t, ext_known e o⟩, fun y hy => ⟨(h.f y hy).1, ext_known e (h.f y hy).2⟩⟩
theorem index_cli {σ : AST} {tk : Tk} {R : Rg} {j i : Nat} {c : Tk × Cli} {q : IntKind} {KV : AV → Prop} (o : σ.objs[j]? = some (.cells (rgV tk R))) (h8 : R.cs.length = 8) (hc : R.cs[i]? = some c)
    (hK : KV (.ptr (some (j, [1, i])))) : indexAddrW Tryz.prog σ 100 (.ptr (some (j, [1]))) (.int q i) KV := by
  have hi := (List.getElem?_eq_some_iff.1 hc).1
  have e1 : (rgV tk R).at [1] = some (.agg (R.cs.map cliP)) := rfl
  simp only [indexAddrW, o, e1]
  refine ⟨by omega, by simpa using hi, fun x hx => ?_⟩
  have hx' : x = cliP c := by
    have : (R.cs.map cliP)[i]? = some (cliP c) := by simp [hc]
    have h2 : (R.cs.map cliP)[(i : Int).toNat]? = some x := hx
    rw [Int.toNat_natCast, this] at h2; exact (Option.some.inj h2).symm
  subst hx'
  refine ⟨⟨99, ?_, ?_⟩, ⟨99, ?_⟩, ?_⟩
  · have e2 : Tryz.prog.cellsOf 99 = 204 := by kernel_rfl
    rw [Int.toNat_natCast, ← List.map_take, sizes_clis]
    simp only [placeOf, Tryz.underlying100]
    rw [if_pos (by omega), e2, List.length_take]
    congr 2; rw [Nat.min_eq_left (by omega)]
  · rw [fits_cli]; exact ⟨rfl, by simp [cliP, AV.size, sizes_cli]⟩
  · rw [Tryz.underlying100, List.length_map, h8]
  · rw [Int.toNat_natCast]; exact hK
theorem sz8 {R : Rg} (h : R.cs.length = 8) : AV.sizes (R.cs.map cliP) = 1632 := by rw [sizes_clis, h]
theorem rg_at {tk : Tk} {R : Rg} {i : Nat} {c : Tk × Cli} (hc : R.cs[i]? = some c) (q : List Nat) : (rgV tk R).at (1 :: i :: q) = (cliV c.1 c.2).at q := by
  simp [AV.at, rgPs, hc, cliP]
section
variable {σ0 s : AST} {j : Nat} {R : Rg} {F : List (Nat × AObj)} {K : AV → AST → Prop}
theorem rgIs_c (hP : PF σ0 s j R F) {i : Int} (hK : K (.bool (decide (0 ≤ i ∧ i < R.n))) s) : TCalls Tryz.prog 46 [.ptr (some (j, [])), .int .i64 i] s K := by
  obtain ⟨tk, o⟩ := hP.o
  have c0 := cellAt_known o
  refine tcalls_walk Tryz.f46 _ [.tmp 4] Tryz.func46 rfl rfl rfl mixed (Nat.le_of_ble_eq_true rfl) rfl fun hlen => ?_
  repeat' (first | (simp -dsimp only [↓reduceIte, go_sem, c0]) | (refine guardV_split (fun h => ?_) (fun h => ?_) <;> (try rw [h]) <;> (try simp at h) <;> (try (exfalso; omega))))
  all_goals
    refine bool_endD hK ?_
    constructor <;> intro hh <;> simp_all <;> omega
theorem rgNumber_c (hP : PF σ0 s j R F) {i : Nat} {c : Tk × Cli} (hc : R.cs[i]? = some c) (hi : (i : Int) < R.n) (hK : K (.int .i64 c.2.last.num) s) : TCalls Tryz.prog 16 [.ptr (some (j, [])), .int .i64 i] s K := by
  obtain ⟨tk, o⟩ := hP.o
  have c0 := cellAt_known o
  refine tcalls_walk Tryz.f16 _ [.tmp 4] Tryz.func16 rfl rfl rfl mixed (Nat.le_of_ble_eq_true rfl) rfl fun hlen => ?_
  simp -dsimp only [↓reduceIte, go_sem]
  refine rgIs_c hP ?_
  rw [decide_eq_true ⟨by omega, hi⟩]
  repeat' (first | (simp -dsimp only [↓reduceIte, go_sem, c0, rg_at hc, sz8 hP.h8]) | (refine index_cli o hP.h8 hc ?_))
  exact hK
theorem rgView_c (hP : PF σ0 s j R F) {i : Nat} {c : Tk × Cli} (hc : R.cs[i]? = some c) (hi : (i : Int) < R.n) (hK : K (.str c.2.view) s) : TCalls Tryz.prog 17 [.ptr (some (j, [])), .int .i64 i] s K := by
  obtain ⟨tk, o⟩ := hP.o
  have c0 := cellAt_known o
  refine tcalls_walk Tryz.f17 _ [.tmp 4] Tryz.func17 rfl rfl rfl mixed (Nat.le_of_ble_eq_true rfl) rfl fun hlen => ?_
  simp -dsimp only [↓reduceIte, go_sem]
  refine rgIs_c hP ?_
  rw [decide_eq_true ⟨by omega, hi⟩]
  repeat' (first | (simp -dsimp only [↓reduceIte, go_sem, c0, rg_at hc, sz8 hP.h8]) | (refine index_cli o hP.h8 hc ?_))
  exact hK
end
attribute [local go_sem] pendSet_5 repSet_0 repSet_1 repSet_2 repSet_3 repSet_4 repSet_5 repSet_6 repSet_7 repSet_8 repSet_9
attribute [local go_sem] cliPs_3 cliAt_3 shapes_cli zero_cli zt_cli rgPs_2 rgPs_3 rgPs_4 rgPs_5 rgSet_0 rgSet_2 zero_rg zt_rg built_rg
def bch (n : Int) : UInt8 := UInt8.ofNat (IntKind.u8.wrap n).toNat
theorem cellAt_growS {s : AST} {tk : Tk} {n e j : Nat} {p : List Nat} : cellAt (growS s tk n e) j p = cellAt s j p := by simp only [cellAt, growS_objs]
theorem objs_growS {s : AST} {tk : Tk} {n e j : Nat} : (growS s tk n e).objs[j]? = s.objs[j]? := by rw [growS_objs]
theorem bch_any {n : Int} : IntKind.u8.wrap n = ((bch n).toNat : Int) := by
  unfold bch
  have h := IntKind.wrap_u8 n
  have h0 : 0 ≤ IntKind.u8.wrap n := by rw [h]; omega
  have h1 : IntKind.u8.wrap n < 256 := by rw [h]; omega
  rw [UInt8.toNat_ofNat_of_lt' (by show (IntKind.u8.wrap n).toNat < 256; omega)]; omega
theorem bch_int {n : Int} (h0 : 0 ≤ n) (h1 : n < 256) : IntKind.u8.wrap n = ((bch n).toNat : Int) := bch_any
theorem conv_mk {l : List UInt8} {σ : AST} {K : AV → AST → Prop} (h : K (.slice (growT σ .full) (u8s l)) (growS σ .full l.length 1)) : convW Tryz.prog 9 123 (.str l) σ K := .inr ⟨5, Tryz.underlying123, Tryz.underlying5, Tryz.underlying9, h⟩
def orderL (long : List UInt8) (l : List Pend) : List UInt8 := long ++ l.map fun p => bch p.client
theorem orderL_next {long : List UInt8} {l : List Pend} {i : Nat} {y : Pend} (h : l[i]? = some y) : orderL long (l.take (i + 1)) = orderL long (l.take i) ++ [bch y.client] := by
  unfold orderL; rw [List.take_add_one, h]; simp
def PendIn (n : Int) (l : List Pend) : Prop := ∀ p ∈ l, 0 ≤ p.client ∧ p.client < n
structure RgOk (R : Rg) : Prop where
  n2 : 2 ≤ R.n
  n8 : R.n ≤ 8
  cl : PendIn R.n R.pend
  pl : R.pend.length ≤ 8
  ll : R.long.length ≤ 512
section
variable {σ0 s : AST} {j : Nat} {R : Rg} {F : List (Nat × AObj)} {K : AV → AST → Prop}
theorem order_c (hP : PF σ0 s j R F) (hR : RgOk R) (hK : K (.str (orderL R.long R.pend)) s) : TCalls Tryz.prog 44 [.ptr (some (j, []))] s K := by
  refine TCalls.drop ?_
  obtain ⟨tk, o⟩ := hP.o
  have c0 := cellAt_known o
  have hpl := hR.pl
  have hll := hR.ll
  have hn8 := hR.n8
  refine tcalls_walk Tryz.f44 _ [.tmp 2] Tryz.func44 rfl rfl rfl mixed (Nat.le_of_ble_eq_true rfl) rfl fun hlen => ?_
  repeat' (first | (simp -dsimp only [↓reduceIte, go_sem, c0, rgAt_3 hP.h8, rgAt_5 hP.h8, cellAt_growS]) | (refine arr_intro fun _ => ?_) | (refine conv_mk ?_))
  refine awp_rounds (fun (i : Nat) τ s' => ∃ tk', i ≤ R.pend.length ∧ Gr s s' tk' (orderL R.long (R.pend.take i)).length ∧ τ 3 = .slice tk' (u8s (orderL R.long (R.pend.take i))) ∧ τ 16 = .slice tk (R.pend.map pendV) ∧ τ 17 = .int .i64 R.pend.length ∧ τ 18 = .int .i64 i) (fun i => R.pend.length - i) 0 ?_ ?_
  · refine ⟨growT s .full, by omega, ?_, ?_, ?_, ?_, ?_⟩ <;> (try simp only [go_sem]) <;> (try rfl)
    · have := (Gr.start (σ := s) (n := 0) (e := 1)).grow (m := R.long.length)
      simpa [orderL] using this
    · simp [orderL]
  · rintro i τ s' ⟨tk', hi, hg, t3, t16, t17, t18⟩
    have hol : (orderL R.long (R.pend.take i)).length = R.long.length + i := by simp [orderL]; omega
    by_cases hil : i < R.pend.length
    · have hi1 : (i : Int) < R.pend.length := by omega
      obtain ⟨y, hy, hym⟩ := get_of_lt hil
      have hcy := hR.cl y hym
      have hb := bch_int (n := y.client) hcy.1 (by omega)
      have hnx := orderL_next (long := R.long) hy
      have hgA := fun l => hg.app (l := l)
      repeat' (first | (simp -dsimp only [↓reduceIte, go_sem, t3, t16, t17, t18, hi1, hb]) | (rw [wrap_i64 (by omega) (by omega)]) | (refine nth_get hy ?_) | (refine build_u8 ?_) | (refine append_bytes E51 S51 (hgA _).c (by rw [hol]; simp; omega) (by rw [hol]; simp [maxL]; omega) ?_))
      refine later_intro ⟨i + 1, by omega, growT (s'.app [.cells (pendV y)]) tk', by omega, ?_, ?_, ?_, ?_, ?_⟩ <;> (try simp only [go_sem, t3, t16, t17, t18, hnx]) <;> (try rfl)
      have := (hgA [.cells (pendV y)]).grow (m := R.long.length + i + 1)
      simpa [hol] using this
    · have hi1 : ¬ (i : Int) < R.pend.length := by omega
      have he : i = R.pend.length := by omega
      subst he
      rw [List.take_length] at t3
      repeat' (simp -dsimp only [↓reduceIte, go_sem, t3, t16, t17, t18, hi1])
      exact ⟨hg.x, rfl, by simpa [AV.strip] using hK⟩
end
theorem E41 : ElemT Tryz.prog 35 138 68 96 := ⟨rfl, by kernel_rfl, by kernel_rfl, ⟨_, of_eq_true zt_pend⟩, by decide⟩
theorem size_pendsx {l : List Pend} : ∀ v ∈ l.map pendV, v.size = 68 := by
  intro v hv; obtain ⟨x, _, rfl⟩ := List.mem_map.1 hv; simp only [AV.size, sizes_pend]
theorem append_pends {a b : List Pend} {tk tk2 : Tk} {σ : AST} {K : AV → AST → Prop} (hca : canApp σ tk a.length 68) (hl : a.length + b.length ≤ 2000) (hK : K (.slice (growT σ tk) ((a ++ b).map pendV)) (growS σ tk (a.length + b.length) 68)) :
    appendW Tryz.prog ⟨[35, 35]⟩ (.slice tk (a.map pendV)) (.slice tk2 (b.map pendV)) σ K := by
  refine append_slice E41 rfl (by rw [List.length_map]; exact hca) size_pendsx size_pendsx (by simp; omega) (by simp [maxL]; omega) ?_
  simpa using hK
theorem append_pnone {b : List Pend} {tk2 : Tk} {σ : AST} {K : AV → AST → Prop} (hl : b.length ≤ 2000) (hK : K (.slice (growT σ .full) (b.map pendV)) (growS σ .full b.length 68)) :
    appendW Tryz.prog ⟨[35, 35]⟩ (.slice .full []) (.slice tk2 (b.map pendV)) σ K := append_pends (a := []) trivial (by simpa using hl) (by simpa using hK)
theorem append_pendx {a : List Pend} {x : Pend} {tk tk2 : Tk} {σ : AST} {K : AV → AST → Prop} (hca : canApp σ tk a.length 68) (hl : a.length ≤ 1999) (hK : K (.slice (growT σ tk) ((a ++ [x]).map pendV)) (growS σ tk (a.length + 1) 68)) :
    appendW Tryz.prog ⟨[35, 35]⟩ (.slice tk (a.map pendV)) (.slice tk2 [pendV x]) σ K := append_pends (b := [x]) hca (by simp; omega) (by simpa using hK)
theorem build_pend {x : Pend} {KV : AV → Prop} (h : KV (.slice .full [pendV x])) : buildSliceW Tryz.prog 35 1 [(0, pendV x)] KV := build_slice E41 rfl (by decide) (by intro v hv; simp at hv; subst hv; simp [go_sem]) (by simpa using h)
theorem build_pend0 {KV : AV → Prop} (h : KV (.slice .full [])) : buildSliceW Tryz.prog 35 0 [] KV := build_slice E41 rfl (by decide) (by intro v hv; simp at hv) (by simpa using h)
theorem noRef_rep {t : Tk} {x : Rep} : (AV.agg (repPs t x)).noRef = true := by simp [AV.noRef, AV.noRefs, repPs, noRefs_pends]
theorem rgNew_c {n : Int} {σ : AST} {K : AV → AST → Prop} (h1 : n < 2 ∨ 8 < n → K (.tuple [.ptr none, .int .i64 2]) σ)
    (h2 : ¬ (n < 2 ∨ 8 < n) → ∀ s, PF σ s σ.objs.length ⟨n, List.replicate 8 (.full, cli0), -1, [], dig0, []⟩ [] → K (.tuple [.ptr (some (σ.objs.length, [])), .int .i64 0]) s) : TCalls Tryz.prog 22 [.int .i64 n] σ K := by
  refine tcalls_walk Tryz.f22 _ [.tmp 2, .tmp 3] Tryz.func22 rfl rfl rfl mixed (Nat.le_of_ble_eq_true rfl) rfl fun hlen => ?_
  have hA := fun v => rgAt_2 (t0 := .full) (v := v) (x := { rg0 with n := n }) rfl
  repeat' (first | (simp -dsimp only [↓reduceIte, go_sem, hA]) | (refine guardV_split (fun h => ?_) (fun h => ?_) <;> (try rw [h]) <;> (try simp at h) <;> (try (exfalso; omega))))
  · exact h1 (by omega)
  · refine h2 (by omega) _ ⟨Ext.app _ _, Nat.le_refl _, rfl, ⟨.full, ?_⟩, fun y hy => by simp at hy⟩
    exact objs_app0
  · exact h1 (by omega)
theorem kept_c {x : Rep} {t : Tk} {σ : AST} {K : AV → AST → Prop} (hl : x.pending.length ≤ 1000) (hK : ∀ t', K (repV t' x) σ) : TCalls Tryz.prog 109 [repV t x] σ K := by
  refine TCalls.drop ?_
  have cS : ∀ a b m v w p, cellAt (((growS (σ.app [a, b]) .full m 68).set σ.objs.length (.cells v)).set (σ.objs.length + 1) (.cells w)) (σ.objs.length + 1) p = w.at p := fun a b m v w p => cellAt_setSx (by simp [AST.set, growS_objs, AST.app])
  have cS1 : ∀ a b m v p, cellAt ((growS (σ.app [a, b]) .full m 68).set σ.objs.length (.cells v)) σ.objs.length p = v.at p := fun a b m v p => cellAt_setSx (by simp [growS_objs, AST.app])
  have nn : σ.objs.length ≠ σ.objs.length + 1 := by omega
  refine tcalls_walk Tryz.f109 _ [.cell 2 37] Tryz.func109 rfl rfl rfl mixed (Nat.le_of_ble_eq_true rfl) rfl fun hlen => ?_
  repeat' (first | (simp -dsimp only [↓reduceIte, go_sem, cellAt_growS, objs_growS, cS, cS1, objs_setNx nn, cellAt_setNx nn]) | (refine build_pend0 ?_) | (refine append_pnone (by omega) ?_))
  refine ⟨((((Ext.app _ _).grow (.inl rfl)).set (Nat.le_refl _)).set (by omega)), noRef_rep, ?_⟩
  simp only [AV.strip, rep_strips]
  exact hK _
def cliOf (R : Rg) (i : Int) : Cli := ((R.cs[i.toNat]?).map (·.2)).getD cli0
def ansP (R : Rg) (p : Pend) : Pend := { p with proof := (cliOf R p.client).tag }
def ans0 (R : Rg) (n : Int) (l : List Pend) : Rep := ⟨n, R.by_, R.long, R.tag, l, 0, [], dig0, [], dig0⟩
def ansC (R : Rg) (n : Int) (l : List Pend) (c : Cli) : Rep := ⟨n, R.by_, R.long, R.tag, l, c.last.num, c.last.value, c.last.data, c.view, c.tag⟩
def ansOf (R : Rg) (x : Sub) : Rep := if x.kind = 2 then ansC R x.num (R.pend.map (ansP R)) (cliOf R x.target) else ans0 R x.num (R.pend.map (ansP R))
theorem cli_get {R : Rg} (h8 : R.cs.length = 8) {i : Int} (h0 : 0 ≤ i) (h1 : i < 8) : ∃ t, R.cs[i.toNat]? = some (t, cliOf R i) := by
  have : i.toNat < R.cs.length := by omega
  refine ⟨(R.cs[i.toNat]).1, ?_⟩
  rw [List.getElem?_eq_getElem this]
  simp [cliOf, List.getElem?_eq_getElem this]
theorem set_setx {s : AST} {i : Nat} {a b : AObj} : (s.set i a).set i b = s.set i b := by simp [AST.set]
theorem ansP_next {R : Rg} {i : Nat} {y : Pend} (h : R.pend[i]? = some y) : (R.pend.take (i + 1)).map (ansP R) = (R.pend.take i).map (ansP R) ++ [ansP R y] := by
  rw [List.take_add_one, h]; simp
section
variable {σ0 s : AST} {j : Nat} {R : Rg} {F : List (Nat × AObj)} {K : AV → AST → Prop}
theorem answer_c (hP : PF σ0 s j R F) (hR : RgOk R) {x : Sub} (hx0 : 0 ≤ x.target) (hx1 : x.target < R.n) (hK : ∀ t, K (repV t (ansOf R x)) s) : TCalls Tryz.prog 110 [.ptr (some (j, [])), subV x] s K := by
  refine TCalls.drop ?_
  have hn8 := hR.n8
  have hpl := hR.pl
  obtain ⟨tk, o⟩ := hP.o
  have hjl := (List.getElem?_eq_some_iff.1 o).1
  have oA : ∀ l, (s.app l).objs[j]? = some _ := fun l => objs_known_app o l
  have cA : ∀ l p, cellAt (s.app l) j p = _ := fun l p => cellAt_known (oA l) p
  have hfin : ∀ s' t, Ext s s' → Ext s s' ∧ (repV t (ansOf R x)).noRef = true ∧ K (repV t (ansOf R x)).strip s := fun s' t h => ⟨h, noRef_rep, by simp only [AV.strip, rep_strips]; exact hK _⟩
  refine tcalls_walk Tryz.f110 _ [.cell 4 37] Tryz.func110 rfl rfl rfl mixed (Nat.le_of_ble_eq_true rfl) rfl fun hlen => ?_
  repeat' (first | (simp -dsimp only [↓reduceIte, go_sem, cA, oA, rgAt_2 hP.h8, rgAt_3 hP.h8, rgAt_4 hP.h8, rgAt_5 hP.h8]) | (refine arr_intro fun _ => ?_) | (refine later_intro ⟨keeps_nil, ?_⟩) | (with_reducible refine awp_drawU (id := 1) (.op 0 0 (.op 1 0 (.op 2 0 (.op 3 0 (.op 4 0 (.op 5 0 (.op 6 0 (.op 7 0 (.op 8 0 (.op 9 0 (.op 10 0 (.op 11 0 (.op 12 0 (.op 13 0 (.op 14 0 (.op 15 1 (.cut (.op 16 1 .nil)))))))))))))))))) (by kernel_rfl) ?_) | (with_reducible refine (And.intro (a := keeps _ _ _) ?_ ?_); focus (simp [keeps_cons, keeps_none, objs_app, objs_app0, oA]; done)))
  refine awp_rounds (fun (i : Nat) τ s' => ∃ tk', Gr s s' tk' i 68 ∧ s'.objs[s.objs.length]? = some (.cells (subV x)) ∧ s'.objs[s.objs.length + 1]? = some (.cells (repV .full rep0)) ∧ s'.objs[s.objs.length + 2]? = some (.cells (repV tk' (ans0 R x.num ((R.pend.take i).map (ansP R))))) ∧ i ≤ R.pend.length ∧ τ 0 = .ptr (some (j, [])) ∧ τ 3 = .ptr (some (s.objs.length, [])) ∧ τ 4 = .ptr (some (s.objs.length + 1, [])) ∧ τ 5 = .ptr (some (s.objs.length + 2, [])) ∧ τ 27 = .slice tk (R.pend.map pendV) ∧ τ 28 = .int .i64 R.pend.length ∧ τ 29 = .int .i64 i) (fun i => R.pend.length - i) 0 ?_ ?_
  · refine ⟨.full, Gr.start' (Ext.app _ _), objs_app0, ?_, ?_, by omega, ?_, ?_, ?_, ?_, ?_, ?_, ?_⟩ <;> (try simp only [go_sem]) <;> (try rfl)
  · rintro i τ s' ⟨tk', hg, b0, b1, b2, hi, t0, t3, t4, t5, t27, t28, t29⟩
    have oj := ext_known hg.x o
    have oA : ∀ l, (s'.app l).objs[j]? = some _ := fun l => objs_known_app oj l
    have cA : ∀ l p, cellAt (s'.app l) j p = _ := fun l p => cellAt_known (oA l) p
    have b0A : ∀ l, (s'.app l).objs[s.objs.length]? = some _ := fun l => objs_known_app b0 l
    have b2A : ∀ l, (s'.app l).objs[s.objs.length + 2]? = some _ := fun l => objs_known_app b2 l
    have c0A : ∀ l p, cellAt (s'.app l) s.objs.length p = _ := fun l p => cellAt_known (b0A l) p
    have c2A : ∀ l p, cellAt (s'.app l) (s.objs.length + 2) p = _ := fun l p => cellAt_known (b2A l) p
    have h2 := (List.getElem?_eq_some_iff.1 b2).1
    by_cases hil : i < R.pend.length
    · have hi1 : (i : Int) < R.pend.length := by omega
      obtain ⟨y, hy, hym⟩ := get_of_lt hil
      have hcy := hR.cl y hym
      obtain ⟨tc, hc⟩ := cli_get hP.h8 (i := y.client) hcy.1 (by omega)
      have hyc : ((y.client.toNat : Nat) : Int) = y.client := Int.toNat_of_nonneg hcy.1
      have hnx := ansP_next hy
      have hgA := fun l => hg.app (l := l)
      repeat' (first | (simp -dsimp only [↓reduceIte, go_sem, t0, t3, t4, t5, t27, t28, t29, hi1, cA, oA, b0A, b2A, c0A, c2A, rg_at hc, sz8 hP.h8, cellAt_growS, objs_growS]) | (refine later_intro ⟨keeps_nil, ?_⟩) | (rw [wrap_i64 (by omega) (by omega)]) | (refine nth_get hy ?_) | (with_reducible refine awp_drawT (id := 5) (.op 0 2 (.op 1 2 (.op 2 2 (.op 3 2 (.op 4 2 (.op 5 2 (.op 6 2 (.op 7 2 (.op 8 2 (.op 9 1 .nil)))))))))) (by kernel_rfl) ?_) | ((rw [← hyc]; refine index_cli (oA _) hP.h8 hc ?_; rw [hyc])) | (refine build_pend ?_) | (refine append_pendx (a := (R.pend.take i).map (ansP R)) (canApp_of (hgA _).c (by simp; omega)) (by simp; omega) ?_))
      have hsz : ∀ a m tk t v, (s.objs.length + 2) < ((growS (s'.app [a]) tk m t)).objs.length := fun a m tk t v => by simp only [growS_objs]; simp [AST.app]; omega
      have hg2 := (hgA [.cells (pendV (ansP R y))]).grow (m := i + 1)
      refine later_intro ⟨i + 1, by omega, growT (s'.app [.cells (pendV (ansP R y))]) tk', ?_, ?_, ?_, ?_, by omega, ?_, ?_, ?_, ?_, ?_, ?_, ?_⟩ <;> (try simp only [go_sem, t0, t3, t4, t5, t27, t28, t29]) <;> (try rfl)
      · have he : (R.pend.take i).length = i := by simp; omega
        rw [he]
        exact hg2.set (by omega)
      · rw [objs_setNx (by omega), growS_objs]; exact b0A _
      · rw [objs_setNx (by omega), growS_objs]; exact objs_known_app b1 _
      · rw [objs_setSx (by simp only [growS_objs]; exact (List.getElem?_eq_some_iff.1 (b2A _)).1), hnx]; rfl
    · have hi1 : ¬ (i : Int) < R.pend.length := by omega
      have he : i = R.pend.length := by omega
      subst he
      rw [List.take_length] at b2 b2A c2A
      have b1A : ∀ l, (s'.app l).objs[s.objs.length + 1]? = some _ := fun l => objs_known_app b1 l
      have c1A : ∀ l p, cellAt (s'.app l) (s.objs.length + 1) p = _ := fun l p => cellAt_known (b1A l) p
      have cj := cellAt_known oj
      have c0 := cellAt_known b0
      have c2 := cellAt_known b2
      have cS2 : ∀ l v p, cellAt ((s'.app l).set (s.objs.length + 2) (.cells v)) (s.objs.length + 2) p = v.at p := fun l v p => cellAt_setSx (by simp [AST.app]; omega)
      have oS2 : ∀ l v, ((s'.app l).set (s.objs.length + 2) (.cells v)).objs[s.objs.length + 2]? = some (.cells v) := fun l v => objs_setSx (by simp [AST.app]; omega)
      by_cases hk : x.kind = 2
      · obtain ⟨tc, hc⟩ := cli_get hP.h8 hx0 (by omega)
        have hxc : ((x.target.toNat : Nat) : Int) = x.target := Int.toNat_of_nonneg hx0
        have hno : ∀ l v k, k ≠ s.objs.length + 2 → ((s'.app l).set (s.objs.length + 2) v).objs[k]? = (s'.app l).objs[k]? := fun l v k h => objs_setNx (Ne.symm h)
        have n1 : s.objs.length + 2 ≠ s'.objs.length := by omega
        have n2 : s.objs.length + 2 ≠ s.objs.length + 1 := by omega
        have cS1 : ∀ l w v p, cellAt (((s'.app l).set (s.objs.length + 2) w).set (s.objs.length + 1) (.cells v)) (s.objs.length + 1) p = v.at p := fun l w v p => cellAt_setSx (by simp [AST.app, AST.set]; omega)
        repeat' (first | (simp -dsimp only [↓reduceIte, go_sem, t0, t3, t4, t5, t27, t28, t29, hi1, hk, cj, c0, c2, cA, oA, b0A, b2A, c0A, c2A, rg_at hc, sz8 hP.h8, cellAt_setNx n1, objs_setNx n1, cellAt_setNx n2, objs_setNx n2, cS2, oS2, cS1, set_setx, b1A, c1A]) | (refine later_intro ⟨keeps_nil, ?_⟩) | (with_reducible refine awp_drawU (id := 9) (.op 0 0 (.op 1 0 (.op 2 0 (.op 3 0 (.op 4 0 (.op 5 0 (.op 6 0 (.op 7 1 (.cut (.op 8 1 .nil)))))))))) (by kernel_rfl) ?_) | ((rw [← hxc]; refine index_cli oj hP.h8 hc ?_; rw [hxc])) | (with_reducible refine awp_drawU (id := 10) (.op 0 2 (.op 1 2 (.op 2 2 (.op 3 0 (.op 4 0 (.op 5 0 (.op 6 0 (.op 7 0 (.op 8 0 (.op 9 2 (.op 10 1 (.op 11 2 (.op 12 1 (.cut (.op 13 2 (.op 14 1 .nil)))))))))))))))) (by kernel_rfl) ?_) | (with_reducible refine awp_drawU (id := 11) (.op 0 2 (.op 1 2 (.op 2 0 (.op 3 0 (.op 4 2 (.op 5 1 (.cut (.op 6 2 (.op 7 1 .nil))))))))) (by kernel_rfl) ?_) | (with_reducible refine keeps_go ?_ ?_; focus (simp [keeps_cons, keeps_none, objs_app, objs_app0, oA, oj, b0, b0A, objs_setNx n1, oS2, b2A]; done)))
        have hA : ansOf R x = ansC R x.num (R.pend.map (ansP R)) (cliOf R x.target) := by unfold ansOf; rw [if_pos hk]
        rw [hA] at hfin
        exact hfin _ tk' (((hg.x.trans (Ext.app _ _)).set (by omega)).set (by omega))
      · have cS1 : ∀ v p, cellAt (s'.set (s.objs.length + 1) (.cells v)) (s.objs.length + 1) p = v.at p := fun v p => cellAt_setSx (by omega)
        repeat' (first | (simp -dsimp only [↓reduceIte, go_sem, t0, t3, t4, t5, t27, t28, t29, hi1, hk, c0, c2, b1, c1A, cS1]) | (refine guardV_split (fun h => ?_) (fun h => ?_) <;> (try rw [h]) <;> (try simp at h) <;> (try (exfalso; omega))))
        have hA : ansOf R x = ans0 R x.num (R.pend.map (ansP R)) := by unfold ansOf; rw [if_neg hk]
        rw [hA] at hfin
        exact hfin _ tk' (hg.x.set (by omega))
end
structure Reg where
  n : Int
  cs : List Cli
  by_ : Int
  long : List UInt8
  tag : Dig
  pend : List Pend
def Rg.plain (R : Rg) : Reg := ⟨R.n, R.cs.map (·.2), R.by_, R.long, R.tag, R.pend⟩
namespace Reg
def cli (M : Reg) (i : Int) : Cli := (M.cs[i.toNat]?).getD cli0
def has (M : Reg) (i : Int) : Prop := 0 ≤ i ∧ i < M.n
def ansP (M : Reg) (p : Pend) : Pend := { p with proof := (M.cli p.client).tag }
def ans (M : Reg) (x : Sub) : Rep :=
  if x.kind = 2 then ⟨x.num, M.by_, M.long, M.tag, M.pend.map M.ansP, (M.cli x.target).last.num, (M.cli x.target).last.value, (M.cli x.target).last.data, (M.cli x.target).view, (M.cli x.target).tag⟩
  else ⟨x.num, M.by_, M.long, M.tag, M.pend.map M.ansP, 0, [], dig0, [], dig0⟩
def order (M : Reg) : List UInt8 := orderL M.long M.pend
def setC (M : Reg) (i : Int) (c : Cli) : Reg := { M with cs := M.cs.set i.toNat c }
def subM (n : Int) (x : Sub) : Msg := { msg0 with kind := 1, client := n, sub := x }
def comM (n : Int) (v : List UInt8) (t : Dig) : Msg := { msg0 with kind := 3, client := n, view := v, tag := t }
def newP (n : Int) (x : Sub) : Pend := ⟨n, x.num, x.kind, x.target, x.asked, dig0⟩
noncomputable def submit (M : Reg) (n : Int) (x : Sub) : Reg × Rep × Int :=
  if ¬ (subM n x).Ok ∨ ¬ M.has n ∨ ¬ M.has x.target then (M, rep0, 2)
  else if x.num = (M.cli n).last.num then (if x = (M.cli n).last then (M, (M.cli n).reply, 0) else (M, rep0, 10))
  else if x.num ≠ (M.cli n).last.num + 1 then (M, rep0, 3)
  else if 512 ≤ M.order.length ∨ 8 ≤ M.pend.length then (M, rep0, 11)
  else ({ M.setC n { M.cli n with last := x, reply := M.ans x } with pend := M.pend ++ [newP n x] }, M.ans x, 0)
def cutP (n k : Int) : List Pend → List Pend
  | [] => []
  | p :: l => if p.client = n ∧ p.num = k then l else cutP n k l
def cut (n k : Int) (l : List Pend) : List Pend := if l.any (fun p => decide (p.client = n ∧ p.num = k)) then cutP n k l else l
noncomputable def commit (M : Reg) (n : Int) (v : List UInt8) (t : Dig) : Reg × Int :=
  if ¬ (comM n v t).Ok ∨ ¬ M.has n then (M, 2)
  else if ((v.getLast?.getD 0).toNat : Int) ≠ n ∨ (Go.Aff.L09.cnt n v : Int) ≠ (M.cli n).last.num then (M, 3)
  else if Go.Aff.L09.cnt n (M.cli n).view = Go.Aff.L09.cnt n v then (M, 10)
  else if v.length ≤ M.long.length then (M.setC n { M.cli n with view := v, tag := t }, 0)
  else ({ M.setC n { M.cli n with view := v, tag := t } with by_ := n, long := v, tag := t, pend := cut n (Go.Aff.L09.cnt n v) M.pend }, 0)
structure Ok (M : Reg) : Prop where
  h8 : M.cs.length = 8
  n2 : 2 ≤ M.n
  n8 : M.n ≤ 8
  cl : PendIn M.n M.pend
  pl : M.pend.length ≤ 8
  ll : M.long.length ≤ 512
  rp : ∀ c ∈ M.cs, c.reply.pending.length ≤ 8
  rv : ∀ c ∈ M.cs, c.reply.view.length ≤ 512
  nm : ∀ c ∈ M.cs, 0 ≤ c.last.num ∧ c.last.num ≤ 512
end Reg
theorem cliOf_plain {R : Rg} {i : Int} : cliOf R i = R.plain.cli i := by simp [cliOf, Reg.cli, Rg.plain]
theorem ansP_plain {R : Rg} {p : Pend} : ansP R p = R.plain.ansP p := by simp [ansP, Reg.ansP, cliOf_plain]
theorem ansOf_plain {R : Rg} {x : Sub} : ansOf R x = R.plain.ans x := by
  have e : ansP R = R.plain.ansP := funext fun p => ansP_plain
  unfold ansOf Reg.ans ansC ans0
  rw [e]; simp [cliOf_plain, Rg.plain]
theorem ok_plain {R : Rg} (h : R.plain.Ok) : RgOk R := ⟨h.n2, h.n8, h.cl, h.pl, h.ll⟩
attribute [local go_sem] pendSet_0 pendSet_1 pendSet_2 pendSet_3 pendSet_4 built_pend
attribute [local go_sem] cliPs_1 cliAt_1 rgSet_5
theorem slice3p {tk : Tk} {l : List Pend} {n : Int} {KV : AV → Prop} (hn : n = l.length) (h : KV (.slice .full (l.map pendV))) : sliceW Tryz.prog 35 (.slice tk (l.map pendV)) none (some (.int .i64 n)) (some (.int .i64 n)) KV := by
  subst hn
  refine ⟨138, E41.hu, fun v hv => by rw [E41.hc]; exact size_pendsx v hv, ⟨_, Tryz.underlying138⟩, ?_⟩
  simp [bndW]
  rw [List.take_of_length_le (by simp)]
  exact h
section
variable {tk : Tk} {R : Rg} {i : Nat} {c : Tk × Cli}
theorem rg_setOk (hc : R.cs[i]? = some c) {q : List Nat} {x : AV} (h : setOk (cliV c.1 c.2) q x) : setOk (rgV tk R) (1 :: i :: q) x := by
  simp only [setOk, rgPs_1, Option.some.injEq]
  rintro v rfl
  simp only [setOk, List.getElem?_map, hc, Option.map_some, Option.some.injEq]
  rintro v rfl
  exact h
theorem rg_setAt (hc : R.cs[i]? = some c) {q : List Nat} {x : AV} {c' : Tk × Cli} (h : (cliV c.1 c.2).setAt q x = cliV c'.1 c'.2) : (rgV tk R).setAt (1 :: i :: q) x = rgV tk { R with cs := R.cs.set i c' } := by
  have e1 : (R.cs.map cliP)[i]? = some (cliP c) := by simp [hc]
  simp only [AV.setAt, rgPs_1, e1]
  simp only [cliP] at h ⊢
  rw [h]
  simp [rgPs, List.map_set, cliP]
end
theorem PF.more {σ0 s : AST} {j : Nat} {R : Rg} {F : List (Nat × AObj)} (h : PF σ0 s j R F) {i : Nat} {o : AObj} (ho : s.objs[i]? = some o) (hj : i ≠ j) : PF σ0 s j R ((i, o) :: F) :=
  ⟨h.x, h.jn, h.h8, h.o, fun x hx => by
    rcases List.mem_cons.1 hx with rfl | hx
    · exact ⟨hj, ho⟩
    · exact h.f x hx⟩
theorem PF.less {σ0 s : AST} {j : Nat} {R : Rg} {y : Nat × AObj} {F : List (Nat × AObj)} (h : PF σ0 s j R (y :: F)) : PF σ0 s j R F := ⟨h.x, h.jn, h.h8, h.o, fun x hx => h.f x (List.mem_cons_of_mem _ hx)⟩
theorem PF.put {σ0 s : AST} {j : Nat} {R R' : Rg} {tk : Tk} {F : List (Nat × AObj)} (h : PF σ0 s j R F) (h8 : R'.cs.length = 8) : PF σ0 (s.set j (.cells (rgV tk R'))) j R' F := by
  obtain ⟨t, o⟩ := h.o
  exact ⟨h.x.set h.jn, h.jn, h8, ⟨tk, objs_setSx (List.getElem?_eq_some_iff.1 o).1⟩, fun y hy => ⟨(h.f y hy).1, by rw [objs_setNx (h.f y hy).1.symm]; exact (h.f y hy).2⟩⟩
theorem PF.grow {σ0 s : AST} {j : Nat} {R : Rg} {tk : Tk} {n e : Nat} {F : List (Nat × AObj)} (h : PF σ0 s j R F) (ht : tkNew σ0 tk) : PF σ0 (growS s tk n e) j R F := by
  obtain ⟨t, o⟩ := h.o
  exact ⟨h.x.grow ht, h.jn, h.h8, ⟨t, by rw [growS_objs]; exact o⟩, fun x hx => ⟨(h.f x hx).1, by rw [growS_objs]; exact (h.f x hx).2⟩⟩
theorem PF.setN {σ0 s : AST} {j i : Nat} {R : Rg} {o : AObj} {F : List (Nat × AObj)} (h : PF σ0 s j R F) (hi : σ0.objs.length ≤ i) (hj : j ≠ i) (hf : ∀ x ∈ F, x.1 ≠ i) : PF σ0 (s.set i o) j R F := by
  obtain ⟨t, q⟩ := h.o
  exact ⟨h.x.set hi, h.jn, h.h8, ⟨t, by rw [objs_setNx hj.symm]; exact q⟩, fun x hx => ⟨(h.f x hx).1, by rw [objs_setNx (hf x hx).symm]; exact (h.f x hx).2⟩⟩
section
variable {σ0 s : AST} {j : Nat} {R : Rg} {F : List (Nat × AObj)} {K : AV → AST → Prop}
theorem rgSubmit_c (hP : PF σ0 s j R F) (hM : R.plain.Ok) {n : Int} {x : Sub} (hK : ∀ t s' R', R'.plain = (R.plain.submit n x).1 → PF σ0 s' j R' F → K (.tuple [repV t (R.plain.submit n x).2.1, .int .i64 (R.plain.submit n x).2.2]) s') :
    TCalls Tryz.prog 77 [.ptr (some (j, [])), .int .i64 n, subV x] s K := by
  have hR := ok_plain hM
  have hn8 := hM.n8
  obtain ⟨tk, o⟩ := hP.o
  have hjl := (List.getElem?_eq_some_iff.1 o).1
  have hA : PF σ0 (s.app [.cells (subV x), .cells (.agg (repPs .full rep0))]) j R ((s.objs.length, .cells (subV x)) :: (s.objs.length + 1, .cells (.agg (repPs .full rep0))) :: F) :=
    ((hP.ext (Ext.app _ _)).more (i := s.objs.length + 1) (by rw [objs_app]; rfl) (by omega)).more (i := s.objs.length) objs_app0 (by omega)
  have cS : ∀ v p, cellAt ((s.app [.cells (subV x), .cells (.agg (repPs .full rep0))]).set (s.objs.length + 1) (.cells v)) (s.objs.length + 1) p = v.at p := fun v p => cellAt_setSx (by simp [AST.app])
  generalize hs1 : s.app [.cells (subV x), .cells (.agg (repPs .full rep0))] = s1 at hA cS
  obtain ⟨tk, o⟩ := hA.o
  have c0 := cellAt_known o
  have b0 := (hA.f _ (List.mem_cons_self ..)).2
  have b1 := (hA.f _ (List.mem_cons_of_mem _ (List.mem_cons_self ..))).2
  simp only at b0 b1
  have cb0 := cellAt_known b0
  have n1 : s.objs.length + 1 ≠ j := by omega
  have hend : ∀ t r e, (R.plain.submit n x) = (R.plain, r, e) → K (.tuple [repV t r, .int .i64 e]) (s1.set (s.objs.length + 1) (.cells (repV t r))) := fun t r e he => by
    have := hK t (s1.set (s.objs.length + 1) (.cells (repV t r))) R (by rw [he]) ?_
    · rw [he] at this; exact this
    · exact hA.less.less.setN (by have := hP.jn; omega) (by omega) fun y hy => by have := (List.getElem?_eq_some_iff.1 (hP.f y hy).2).1; omega
  refine tcalls_walk Tryz.f77 _ [.cell 6 37, .tmp 7] Tryz.func77 rfl rfl rfl mixed (Nat.le_of_ble_eq_true rfl) rfl fun hlen => ?_
  repeat' (simp -dsimp only [↓reduceIte, go_sem, hs1, c0, cb0])
  refine put_c (m := Reg.subM n x) ?_
  by_cases hok : (Reg.subM n x).Ok
  · rw [if_pos hok]
    by_cases hn : R.plain.has n
    · by_cases hx : R.plain.has x.target
      · have hgo : ¬ (¬ (Reg.subM n x).Ok ∨ ¬ R.plain.has n ∨ ¬ R.plain.has x.target) := by rintro (h | h | h) <;> contradiction
        obtain ⟨hn0, hn1⟩ := hn
        obtain ⟨hx0, hx1⟩ := hx
        have hn1 : n < R.n := hn1
        have hx1 : x.target < R.n := hx1
        have hn8 : R.n ≤ 8 := hn8
        obtain ⟨tc, hc⟩ := cli_get hP.h8 hn0 (by omega)
        have hnn : ((n.toNat : Nat) : Int) = n := Int.toNat_of_nonneg hn0
        have hat := rg_at (tk := tk) hc
        have h8 := sz8 hP.h8
        have hcl : cliOf R n = R.plain.cli n := cliOf_plain
        have hmem : cliOf R n ∈ R.plain.cs := by
          have h1 : (R.plain.cs)[n.toNat]? = some (cliOf R n) := by simp [Rg.plain, hc]
          exact List.mem_of_getElem? h1
        have hrp := hM.rp _ hmem
        have hnm := hM.nm _ hmem
        have hwr : IntKind.i64.wrap ((cliOf R n).last.num + 1) = (cliOf R n).last.num + 1 := wrap_i64 (by omega) (by omega)
        have hsub : R.plain.submit n x = if x.num = (cliOf R n).last.num then (if x = (cliOf R n).last then (R.plain, (cliOf R n).reply, 0) else (R.plain, rep0, 10))
            else if x.num ≠ (cliOf R n).last.num + 1 then (R.plain, rep0, 3)
            else if 512 ≤ R.plain.order.length ∨ 8 ≤ R.plain.pend.length then (R.plain, rep0, 11)
            else ({ R.plain.setC n { R.plain.cli n with last := x, reply := R.plain.ans x } with pend := R.plain.pend ++ [Reg.newP n x] }, R.plain.ans x, 0) := by
          unfold Reg.submit; rw [if_neg hgo, ← hcl]
        by_cases e1 : x.num = (cliOf R n).last.num
        · rw [if_pos e1] at hsub
          by_cases e2 : x = (cliOf R n).last
          · rw [if_pos e2] at hsub
            have e1t := eq_true e1
            have e2t := eq_true e2
            repeat' (first | (simp -dsimp only [↓reduceIte, go_sem, hs1, c0, cb0, hn0, hn1, hx0, hx1, hat, h8, b1, cS, hwr, e1t, e2t]) | (refine guardV_split (fun h => ?_) (fun h => ?_) <;> (try rw [h]) <;> (try simp at h) <;> (try (exfalso; omega))) | (refine rgIs_c hA ?_) | ((rw [← hnn]; refine index_cli o hP.h8 hc ?_; rw [hnn])) | (with_reducible refine awp_drawS (id := 7) [0, 1, 2, 3, 4, 5, 6, 7, 8, 9, 10, 11, 12, 13, 14, 15, 16] (by kernel_rfl) ?_) | ((refine kept_c (by omega) fun t' => ?_)))
            exact hend t' _ 0 hsub
          · rw [if_neg e2] at hsub
            have e1t := eq_true e1
            repeat' (first | (simp -dsimp only [↓reduceIte, go_sem, hs1, c0, cb0, hn0, hn1, hx0, hx1, hat, h8, b1, cS, hwr, e1t, e2]) | (refine guardV_split (fun h => ?_) (fun h => ?_) <;> (try rw [h]) <;> (try simp at h) <;> (try (exfalso; omega))) | (refine rgIs_c hA ?_) | ((rw [← hnn]; refine index_cli o hP.h8 hc ?_; rw [hnn])) | (with_reducible refine awp_drawS (id := 7) [0, 1, 2, 3, 4, 5, 6, 7, 8, 9, 10, 11, 12, 13, 14, 15, 16] (by kernel_rfl) ?_) | (with_reducible refine awp_drawS (id := 9) [0, 1, 2, 3, 4, 5, 6, 7, 8] (by kernel_rfl) ?_))
            exact hend .full rep0 10 hsub
        · rw [if_neg e1] at hsub
          by_cases e3 : x.num = (cliOf R n).last.num + 1
          · rw [if_neg (by simpa using e3)] at hsub
            have e3t := eq_true e3
            have hol : (orderL R.long R.pend).length = R.long.length + R.pend.length := by simp [orderL]
            have hlb := hM.ll
            have hpb := hM.pl
            have hlb : R.long.length ≤ 512 := hlb
            have hpb : R.pend.length ≤ 8 := hpb
            by_cases e4 : 512 ≤ R.long.length + R.pend.length
            · have e4' : (512 : Int) ≤ (R.long.length : Int) + R.pend.length := by omega
              rw [if_pos (.inl (by show 512 ≤ (orderL R.long R.pend).length; omega))] at hsub
              repeat' (first | (simp -dsimp only [↓reduceIte, go_sem, hs1, c0, cb0, hn0, hn1, hx0, hx1, hat, h8, b1, cS, hwr, e1, e3t, hol, e4', Int.natCast_add]) | (refine arr_intro fun _ => ?_) | (refine guardV_split (fun h => ?_) (fun h => ?_) <;> (try rw [h]) <;> (try simp at h) <;> (try (exfalso; omega))) | (refine rgIs_c hA ?_) | ((rw [← hnn]; refine index_cli o hP.h8 hc ?_; rw [hnn])) | (with_reducible refine awp_drawS (id := 7) [0, 1, 2, 3, 4, 5, 6, 7, 8, 9, 10, 11, 12, 13, 14, 15, 16] (by kernel_rfl) ?_) | (with_reducible refine awp_drawS (id := 9) [0, 1, 2, 3, 4, 5, 6, 7, 8] (by kernel_rfl) ?_) | (with_reducible refine awp_drawS (id := 11) [0, 1, 2, 3, 4, 5, 6, 7, 8, 9] (by kernel_rfl) ?_) | (refine order_c hA hR ?_))
              all_goals first
                | (exfalso; omega)
                | (refine absurd e3 ?_; assumption)
                | (refine absurd ?_ e3; assumption)
                | exact hend .full rep0 11 hsub
            · have e4' : ¬ (512 : Int) ≤ (R.long.length : Int) + R.pend.length := by omega
              by_cases e5 : 8 ≤ R.pend.length
              · have e5' : (8 : Int) ≤ R.pend.length := by omega
                rw [if_pos (.inr e5)] at hsub
                repeat' (first | (simp -dsimp only [↓reduceIte, go_sem, hs1, c0, cb0, hn0, hn1, hx0, hx1, hat, h8, b1, cS, hwr, e1, e3t, hol, e4', e5', Int.natCast_add, rgAt_5 hP.h8]) | (refine arr_intro fun _ => ?_) | (refine guardV_split (fun h => ?_) (fun h => ?_) <;> (try rw [h]) <;> (try simp at h) <;> (try (exfalso; omega))) | (refine rgIs_c hA ?_) | ((rw [← hnn]; refine index_cli o hP.h8 hc ?_; rw [hnn])) | (with_reducible refine awp_drawS (id := 7) [0, 1, 2, 3, 4, 5, 6, 7, 8, 9, 10, 11, 12, 13, 14, 15, 16] (by kernel_rfl) ?_) | (with_reducible refine awp_drawS (id := 9) [0, 1, 2, 3, 4, 5, 6, 7, 8] (by kernel_rfl) ?_) | (with_reducible refine awp_drawS (id := 11) [0, 1, 2, 3, 4, 5, 6, 7, 8, 9] (by kernel_rfl) ?_) | (refine order_c hA hR ?_))
                all_goals first
                  | (exfalso; omega)
                  | (refine absurd e3 ?_; assumption)
                  | (refine absurd ?_ e3; assumption)
                  | exact hend .full rep0 11 hsub
              · have e5' : ¬ (8 : Int) ≤ R.pend.length := by omega
                rw [if_neg (by rintro (h | h); exact e4 (by rw [← hol]; exact h); exact e5 h)] at hsub
                repeat' (first | (simp -dsimp only [↓reduceIte, go_sem, hs1, c0, cb0, hn0, hn1, hx0, hx1, hat, h8, b1, cS, hwr, e1, e3t, hol, e4', e5', Int.natCast_add, rgAt_5 hP.h8]) | (refine arr_intro fun _ => ?_) | (refine guardV_split (fun h => ?_) (fun h => ?_) <;> (try rw [h]) <;> (try simp at h) <;> (try (exfalso; omega))) | (refine rgIs_c hA ?_) | ((rw [← hnn]; refine index_cli o hP.h8 hc ?_; rw [hnn])) | (with_reducible refine awp_drawS (id := 7) [0, 1, 2, 3, 4, 5, 6, 7, 8, 9, 10, 11, 12, 13, 14, 15, 16] (by kernel_rfl) ?_) | (with_reducible refine awp_drawS (id := 9) [0, 1, 2, 3, 4, 5, 6, 7, 8] (by kernel_rfl) ?_) | (with_reducible refine awp_drawS (id := 11) [0, 1, 2, 3, 4, 5, 6, 7, 8, 9] (by kernel_rfl) ?_) | (refine order_c hA hR ?_))
                all_goals first
                  | (exfalso; omega)
                  | (refine absurd e3 ?_; assumption)
                  | (refine absurd ?_ e3; assumption)
                  | skip
                refine answer_c hA hR hx0 hx1 fun t => ?_
                have hso1 : ∀ t y, setOk (rgV tk R) [1, n.toNat, 1] (repV t y) := fun t y => rg_setOk hc (by simp [setOk])
                have hsa1 : ∀ t y, (rgV tk R).setAt [1, n.toNat, 1] (repV t y) = rgV tk { R with cs := R.cs.set n.toNat (t, { cliOf R n with reply := y }) } := fun t y => rg_setAt (c' := (t, { cliOf R n with reply := y })) hc rfl
                repeat' (simp -dsimp only [↓reduceIte, go_sem, o, c0, hat, hso1, hsa1])
                have hP1 := hA.put (tk := tk) (R' := { R with cs := R.cs.set n.toNat (t, { cliOf R n with reply := ansOf R x }) }) (by simpa using hP.h8)
                generalize s1.set j _ = s2 at hP1 ⊢
                obtain ⟨tk1, o1⟩ := hP1.o
                have c1 := cellAt_known o1
                have b0' := (hP1.f _ (List.mem_cons_self ..)).2
                simp only at b0'
                have cb0' := cellAt_known b0'
                have hnl : n.toNat < R.cs.length := (List.getElem?_eq_some_iff.1 hc).1
                have hc1 : ({ R with cs := R.cs.set n.toNat (t, { cliOf R n with reply := ansOf R x }) } : Rg).cs[n.toNat]? = some (t, { cliOf R n with reply := ansOf R x }) := by simp [hnl]
                have hat1 := rg_at (tk := tk1) hc1
                have hso2 : ∀ y, setOk (rgV tk1 { R with cs := R.cs.set n.toNat (t, { cliOf R n with reply := ansOf R x }) }) [1, n.toNat, 0] (subV y) := fun y => rg_setOk hc1 (by simp [setOk])
                have hsa2 : ∀ y, (rgV tk1 { R with cs := R.cs.set n.toNat (t, { cliOf R n with reply := ansOf R x }) }).setAt [1, n.toNat, 0] (subV y) = rgV tk1 { R with cs := (R.cs.set n.toNat (t, { cliOf R n with reply := ansOf R x })).set n.toNat (t, { cliOf R n with last := y, reply := ansOf R x }) } := fun y => rg_setAt (c' := (t, { cliOf R n with last := y, reply := ansOf R x })) hc1 rfl
                repeat' (simp -dsimp only [↓reduceIte, go_sem, o1, c1, cb0', hat1, hso2, hsa2])
                have hP2 := hP1.put (tk := tk1) (R' := { R with cs := (R.cs.set n.toNat (t, { cliOf R n with reply := ansOf R x })).set n.toNat (t, { cliOf R n with last := x, reply := ansOf R x }) }) (by simpa using hP.h8)
                generalize s2.set j _ = s3 at hP2 ⊢
                rw [List.set_set] at hP2
                obtain ⟨tk2, o2⟩ := hP2.o
                have c2 := cellAt_known o2
                have b02 := (hP2.f _ (List.mem_cons_self ..)).2
                simp only at b02
                have cb02 := cellAt_known b02
                have h82 : ({ R with cs := R.cs.set n.toNat (t, { cliOf R n with last := x, reply := ansOf R x }) } : Rg).cs.length = 8 := by simpa using hP.h8
                repeat' (first | (simp -dsimp only [↓reduceIte, go_sem, o2, c2, cb02, rgAt_5 h82, cellAt_growS, objs_growS]) | (refine arr_intro fun _ => ?_) | (refine later_intro ⟨keeps_nil, ?_⟩) | (with_reducible refine awp_drawU (id := 17) (.op 0 0 (.op 1 2 (.op 2 2 (.op 3 2 (.op 4 2 (.op 5 2 (.op 6 2 (.op 7 2 (.op 8 2 (.op 9 2 (.op 10 2 (.op 11 2 (.op 12 2 (.op 13 2 (.op 14 2 (.op 15 2 (.op 16 2 (.op 17 2 (.op 18 2 (.op 19 2 (.op 20 2 (.op 21 2 (.op 22 2 (.op 23 2 (.op 24 2 (.op 25 2 (.op 26 2 (.op 27 1 (.cut (.op 28 2 (.op 29 2 (.op 30 1 .nil)))))))))))))))))))))))))))))))) (by kernel_rfl) ?_) | (refine slice3p rfl ?_) | (refine build_pend ?_) | (refine append_pendx trivial (by omega) ?_))
                have hP3 := (hP2.grow (tk := .full) (n := R.pend.length + 1) (e := 68) (.inl rfl)).put (tk := growT s3 .full) (R' := { R with cs := R.cs.set n.toNat (t, { cliOf R n with last := x, reply := ansOf R x }), pend := R.pend ++ [Reg.newP n x] }) (by simpa using hP.h8)
                have hs4 : (growS s3 .full (R.pend.length + 1) 68).set j (.cells (rgV (growT s3 .full) { R with cs := R.cs.set n.toNat (t, { cliOf R n with last := x, reply := ansOf R x }), pend := R.pend ++ [Reg.newP n x] })) = (growS s3 .full (R.pend.length + 1) 68).set j (.cells (.agg (rgPs (growT s3 .full) { R with cs := R.cs.set n.toNat (t, { last := x, reply := ansOf R x, view := (cliOf R n).view, tag := (cliOf R n).tag }), pend := R.pend ++ [{ client := n, num := x.num, kind := x.kind, target := x.target, asked := x.asked, proof := pend0.proof }] }))) := rfl
                rw [hs4] at hP3
                generalize (growS s3 .full (R.pend.length + 1) 68).set j _ = s4 at hP3 ⊢
                obtain ⟨tk3, o3⟩ := hP3.o
                have c3 := cellAt_known o3
                have b13 := (hP3.f _ (List.mem_cons_of_mem _ (List.mem_cons_self ..))).2
                simp only at b13
                have hc3 : ({ R with cs := R.cs.set n.toNat (t, { cliOf R n with last := x, reply := ansOf R x }), pend := R.pend ++ [Reg.newP n x] } : Rg).cs[n.toNat]? = some (t, { cliOf R n with last := x, reply := ansOf R x }) := by simp [hnl]
                have hat3 := rg_at (tk := tk3) hc3
                have hpa : (ansOf R x).pending.length ≤ 8 := by rw [ansOf_plain]; unfold Reg.ans; split <;> simpa [Rg.plain] using hpb
                have cS3 : ∀ v p, cellAt (s4.set (s.objs.length + 1) (.cells v)) (s.objs.length + 1) p = v.at p := fun v p => cellAt_setSx (List.getElem?_eq_some_iff.1 b13).1
                repeat' (first | (simp -dsimp only [↓reduceIte, go_sem, c3, hat3, b13, cS3]) | ((refine kept_c (by omega) fun t' => ?_)))
                have hpl : ({ R with cs := R.cs.set n.toNat (t, { cliOf R n with last := x, reply := ansOf R x }), pend := R.pend ++ [Reg.newP n x] } : Rg).plain = (R.plain.submit n x).1 := by
                  rw [hsub, ← hcl, ← ansOf_plain]; simp [Rg.plain, Reg.setC, List.map_set]
                have hfin := hK t' (s4.set (s.objs.length + 1) (.cells (repV t' (ansOf R x)))) _ hpl (hP3.less.less.setN (by have := hP.jn; omega) (by omega) fun y hy => by have := (List.getElem?_eq_some_iff.1 (hP.f y hy).2).1; omega)
                rw [hsub, ← ansOf_plain] at hfin
                exact hfin
          · rw [if_pos e3] at hsub
            repeat' (first | (simp -dsimp only [↓reduceIte, go_sem, hs1, c0, cb0, hn0, hn1, hx0, hx1, hat, h8, b1, cS, hwr, e1, e3]) | (refine guardV_split (fun h => ?_) (fun h => ?_) <;> (try rw [h]) <;> (try simp at h) <;> (try (exfalso; omega))) | (refine rgIs_c hA ?_) | ((rw [← hnn]; refine index_cli o hP.h8 hc ?_; rw [hnn])) | (with_reducible refine awp_drawS (id := 7) [0, 1, 2, 3, 4, 5, 6, 7, 8, 9, 10, 11, 12, 13, 14, 15, 16] (by kernel_rfl) ?_) | (with_reducible refine awp_drawS (id := 9) [0, 1, 2, 3, 4, 5, 6, 7, 8] (by kernel_rfl) ?_) | (with_reducible refine awp_drawS (id := 11) [0, 1, 2, 3, 4, 5, 6, 7, 8, 9] (by kernel_rfl) ?_))
            all_goals first
              | (exfalso; omega)
              | (refine absurd e3 ?_; assumption)
              | (refine absurd ?_ e3; assumption)
              | exact hend .full rep0 3 hsub
      · have hsub : R.plain.submit n x = (R.plain, rep0, 2) := by unfold Reg.submit; rw [if_pos (.inr (.inr hx))]
        obtain ⟨hn0, hn1⟩ := hn
        have hn1 : n < R.n := hn1
        have hx' : ¬ (0 ≤ x.target ∧ x.target < R.n) := hx
        have hxd : (decide (0 ≤ x.target) && decide (x.target < R.n)) = false := by rw [← Bool.decide_and]; exact decide_eq_false hx'
        repeat' (first | (simp -dsimp only [↓reduceIte, go_sem, hs1, c0, cb0, hn0, hn1, hxd, b1, cS]) | (refine guardV_split (fun h => ?_) (fun h => ?_) <;> (try rw [h]) <;> (try simp at h) <;> (try (exfalso; omega))) | (refine rgIs_c hA ?_))
        exact hend .full rep0 2 hsub
    · have hsub : R.plain.submit n x = (R.plain, rep0, 2) := by unfold Reg.submit; rw [if_pos (.inr (.inl hn))]
      have hn' : ¬ (0 ≤ n ∧ n < R.n) := hn
      have hnd : (decide (0 ≤ n) && decide (n < R.n)) = false := by rw [← Bool.decide_and]; exact decide_eq_false hn'
      repeat' (first | (simp -dsimp only [↓reduceIte, go_sem, hs1, c0, cb0, hnd, b1, cS]) | (refine guardV_split (fun h => ?_) (fun h => ?_) <;> (try rw [h]) <;> (try simp at h) <;> (try (exfalso; omega))) | (refine rgIs_c hA ?_))
      exact hend .full rep0 2 hsub
  · rw [if_neg hok]
    repeat' (simp -dsimp only [↓reduceIte, go_sem, hs1, c0, cb0, b1, objs_setSx, cS])
    exact hend .full rep0 2 (by unfold Reg.submit; rw [if_pos (.inl hok)])
end
attribute [local go_sem] zt3 zero3
attribute [local go_sem] rgSet_3 rgSet_4 fits23r
def hitP (n k : Int) (p : Pend) : Prop := p.client = n ∧ p.num = k
theorem cutP_at {n k : Int} : ∀ {l : List Pend} {i : Nat} {y : Pend}, (∀ (m : Nat) z, m < i → l[m]? = some z → ¬ hitP n k z) → l[i]? = some y → hitP n k y → Reg.cutP n k l = l.drop (i + 1)
  | [], i, y, h, hy, hh => by simp at hy
  | p :: l, 0, y, h, hy, hh => by simp at hy; subst hy; unfold hitP at hh; simp [Reg.cutP, hh]
  | p :: l, i + 1, y, h, hy, hh => by
    have h0 := h 0 p (by omega) rfl
    unfold hitP at h0
    simp only [Reg.cutP, h0, if_false, List.drop_succ_cons]
    exact cutP_at (fun m z hm hz => h (m + 1) z (by omega) (by simpa using hz)) (by simpa using hy) hh
theorem cut_at {n k : Int} {l : List Pend} {i : Nat} {y : Pend} (h : ∀ (m : Nat) z, m < i → l[m]? = some z → ¬ hitP n k z) (hy : l[i]? = some y) (hh : hitP n k y) : Reg.cut n k l = l.drop (i + 1) := by
  unfold Reg.cut
  rw [if_pos]
  · exact cutP_at h hy hh
  · rw [List.any_eq_true]; exact ⟨y, List.mem_of_getElem? hy, decide_eq_true hh⟩
theorem cut_none {n k : Int} {l : List Pend} (h : ∀ p ∈ l, ¬ hitP n k p) : Reg.cut n k l = l := by
  unfold Reg.cut
  rw [if_neg]
  rw [List.any_eq_true]
  rintro ⟨p, hp, hd⟩
  exact h p hp (by simpa [hitP] using hd)
theorem lo_pends {l : List Pend} {tk : Tk} {i : Nat} {KV : AV → Prop} (hi : i + 1 ≤ l.length) (h : ∀ t, KV (.slice t ((l.drop (i + 1)).map pendV))) : sliceW Tryz.prog 35 (.slice tk (l.map pendV)) (some (.int .i64 ((i : Int) + 1))) none none KV := by
  have := slice_lo (P := Tryz.prog) (h := i + 1) (tk := tk) (q := .i64) (KV := KV) E41 ⟨_, Tryz.underlying138⟩ (size_pendsx (l := l)) (by simpa using hi) fun t => by rw [← List.map_drop]; exact h t
  simpa using this
section
variable {σ0 s : AST} {j : Nat} {R : Rg} {F : List (Nat × AObj)} {K : AV → AST → Prop}
theorem cut_c (hP : PF σ0 s j R F) (hl : R.pend.length ≤ 8) {b0 b1 b2 : Nat} {n k : Int} (h0 : s.objs[b0]? = some (.cells (.ptr (some (j, []))))) (h1 : s.objs[b1]? = some (.cells (.int .i64 n))) (h2 : s.objs[b2]? = some (.cells (.int .i64 k)))
    (hK : ∀ s', PF σ0 s' j { R with pend := Reg.cut n k R.pend } F → K (.tuple []) s') : TCalls Tryz.prog 79 [.ptr (some (b0, [])), .ptr (some (b1, [])), .ptr (some (b2, []))] s K := by
  obtain ⟨tk, o⟩ := hP.o
  have c0 := cellAt_known o
  have cb0 := cellAt_known h0
  have cb1 := cellAt_known h1
  have cb2 := cellAt_known h2
  refine tcalls_walk Tryz.f79 _ [] Tryz.func79 rfl rfl rfl mixed (Nat.le_of_ble_eq_true rfl) rfl fun hlen => ?_
  repeat' (first | (simp -dsimp only [↓reduceIte, go_sem, c0, cb0, rgAt_5 hP.h8]) | (refine arr_intro fun _ => ?_))
  refine awp_rounds (fun (i : Nat) τ s' => Ext s s' ∧ i ≤ R.pend.length ∧ (∀ (m : Nat) z, m < i → R.pend[m]? = some z → ¬ hitP n k z) ∧ τ 0 = .ptr (some (b0, [])) ∧ τ 1 = .ptr (some (b1, [])) ∧ τ 2 = .ptr (some (b2, [])) ∧ τ 8 = .slice tk (R.pend.map pendV) ∧ τ 9 = .int .i64 R.pend.length ∧ τ 10 = .int .i64 i) (fun i => R.pend.length - i) 0 ?_ ?_
  · refine ⟨Ext.refl _, by omega, fun m z h => by omega, ?_, ?_, ?_, ?_, ?_, ?_⟩ <;> (try simp only [go_sem]) <;> (try rfl)
  · rintro i τ s' ⟨hx, hi, hno, t0, t1, t2, t8, t9, t10⟩
    by_cases hil : i < R.pend.length
    · have hi1 : (i : Int) < R.pend.length := by omega
      obtain ⟨y, hy, hym⟩ := get_of_lt hil
      have hxA := fun l => hx.trans (Ext.app s' l)
      have oA := fun l => ext_known (hxA l) o
      have b0A := fun l => ext_known (hxA l) h0
      have b1A := fun l => ext_known (hxA l) h1
      have b2A := fun l => ext_known (hxA l) h2
      have cA := fun l => cellAt_known (oA l)
      have c0A := fun l => cellAt_known (b0A l)
      have c1A := fun l => cellAt_known (b1A l)
      have c2A := fun l => cellAt_known (b2A l)
      by_cases hh : hitP n k y
      · have hcut := cut_at hno hy hh
        obtain ⟨e1, e2⟩ := hh
        repeat' (first | (simp -dsimp only [↓reduceIte, go_sem, t0, t1, t2, t8, t9, t10, hi1, oA, cA, c0A, c1A, c2A, e1, e2, rgAt_5 hP.h8, cellAt_growS, objs_growS]) | (refine later_intro ⟨keeps_nil, ?_⟩) | (refine later_intro ⟨keeps_refl, ?_⟩) | (rw [wrap_i64 (by omega) (by omega)]) | (refine nth_get hy ?_) | (with_reducible refine awp_drawU (id := 4) (.op 0 0 (.op 1 2 (.op 2 2 (.op 3 2 (.op 4 2 (.op 5 2 (.op 6 2 (.op 7 2 (.op 8 2 (.op 9 1 (.cut (.op 10 2 (.op 11 2 (.op 12 1 .nil)))))))))))))) (by kernel_rfl) ?_) | (refine build_pend0 ?_) | (refine lo_pends (by omega) fun t => ?_) | (refine append_pnone (by simp; omega) ?_))
        refine hK _ ?_
        rw [hcut]
        exact ((hP.ext (hxA _)).grow (.inl rfl)).put (R' := { R with pend := R.pend.drop (i + 1) }) hP.h8
      · have e1 : ¬ (y.client = n ∧ y.num = k) := hh
        repeat' (first | (simp -dsimp only [↓reduceIte, go_sem, t0, t1, t2, t8, t9, t10, hi1, oA, cA, c0A, c1A, c2A, e1]) | (rw [wrap_i64 (by omega) (by omega)]) | (refine guardV_split (fun h => ?_) (fun h => ?_) <;> (try rw [h]) <;> (try simp at h) <;> (try (exfalso; omega))) | (refine nth_get hy ?_))
        all_goals first
          | (refine absurd ⟨?_, ?_⟩ e1 <;> assumption)
          | (refine later_intro ⟨i + 1, by omega, hxA _, by omega, ?_, ?_, ?_, ?_, ?_, ?_, ?_⟩ <;> (try simp only [go_sem, t0, t1, t2, t8, t9, t10]) <;> (try rfl)
             intro m z hm hz
             by_cases hmi : m < i
             · exact hno m z hmi hz
             · obtain rfl : m = i := by omega
               rw [hy] at hz; cases hz; exact hh)
    · have hi1 : ¬ (i : Int) < R.pend.length := by omega
      have he : i = R.pend.length := by omega
      have hcut : Reg.cut n k R.pend = R.pend := cut_none fun p hp => by
        obtain ⟨m, hm⟩ := List.mem_iff_getElem?.1 hp
        exact hno m p (by have := (List.getElem?_eq_some_iff.1 hm).1; omega) hm
      repeat' (simp -dsimp only [↓reduceIte, go_sem, t0, t1, t2, t8, t9, t10, hi1])
      refine hK _ ?_
      rw [hcut]
      exact hP.ext hx
end
end Go.Aff.L10

