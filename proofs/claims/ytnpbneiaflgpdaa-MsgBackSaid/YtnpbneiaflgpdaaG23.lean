import Derived.Test.YtnpbneiaflgpdaaG18
import Derived.Test.YtnpbneiaflgpdaaG20
import Derived.Test.YtnpbneiaflgpdaaG21
import Derived.Test.YtnpbneiaflgpdaaG22

set_option linter.unusedSimpArgs false
set_option linter.unusedVariables false

/- Layer 10: structs. -/
namespace Go.Aff.L10
open Go.Proofs Go.Aff Go.Aff.L01 Classical
set_option linter.unusedVariables false
set_option maxRecDepth 20000
def dig0 : Dig := ⟨List.replicate 32 0, by simp⟩
structure Sub where
  num : Int
  kind : Int
  target : Int
  value : List UInt8
  asked : Dig
  data : Dig
def sub0 : Sub := ⟨0, 0, 0, [], dig0, dig0⟩
def subPs (x : Sub) : List AV := [.int .i64 x.num, .int .i64 x.kind, .int .i64 x.target, .str x.value, .dig x.asked, .dig x.data]
abbrev subV (x : Sub) : AV := .agg (subPs x)
theorem subPs_0 {x : Sub} : (subPs x)[0]? = some (.int .i64 x.num) := nr rfl
theorem subAt_0 {x : Sub} {v : AV} : partIs Try.prog 25 (subPs x) 0 v = fits Try.prog 3 v := by rw [partIs_of (o := 0) (T := 3) (by kernel_rfl)]; simp [subPs, AV.sizes, AV.size]
theorem subSet_0 {x : Sub} {y : Int} : (subPs x).set 0 (.int .i64 y) = subPs { x with num := y } := nr rfl
theorem subPs_1 {x : Sub} : (subPs x)[1]? = some (.int .i64 x.kind) := nr rfl
theorem subAt_1 {x : Sub} {v : AV} : partIs Try.prog 25 (subPs x) 1 v = fits Try.prog 3 v := by rw [partIs_of (o := 1) (T := 3) (by kernel_rfl)]; simp [subPs, AV.sizes, AV.size]
theorem subSet_1 {x : Sub} {y : Int} : (subPs x).set 1 (.int .i64 y) = subPs { x with kind := y } := nr rfl
theorem subPs_2 {x : Sub} : (subPs x)[2]? = some (.int .i64 x.target) := nr rfl
theorem subAt_2 {x : Sub} {v : AV} : partIs Try.prog 25 (subPs x) 2 v = fits Try.prog 3 v := by rw [partIs_of (o := 2) (T := 3) (by kernel_rfl)]; simp [subPs, AV.sizes, AV.size]
theorem subSet_2 {x : Sub} {y : Int} : (subPs x).set 2 (.int .i64 y) = subPs { x with target := y } := nr rfl
theorem subPs_3 {x : Sub} : (subPs x)[3]? = some (.str x.value) := nr rfl
theorem subAt_3 {x : Sub} {v : AV} : partIs Try.prog 25 (subPs x) 3 v = fits Try.prog 9 v := by rw [partIs_of (o := 3) (T := 9) (by kernel_rfl)]; simp [subPs, AV.sizes, AV.size]
theorem subSet_3 {x : Sub} {y : List UInt8} : (subPs x).set 3 (.str y) = subPs { x with value := y } := nr rfl
theorem subPs_4 {x : Sub} : (subPs x)[4]? = some (.dig x.asked) := nr rfl
theorem subAt_4 {x : Sub} {v : AV} : partIs Try.prog 25 (subPs x) 4 v = fits Try.prog 23 v := by rw [partIs_of (o := 4) (T := 23) (by kernel_rfl)]; simp [subPs, AV.sizes, AV.size]
theorem subSet_4 {x : Sub} {y : Dig} : (subPs x).set 4 (.dig y) = subPs { x with asked := y } := nr rfl
theorem subPs_5 {x : Sub} : (subPs x)[5]? = some (.dig x.data) := nr rfl
theorem subAt_5 {x : Sub} {v : AV} : partIs Try.prog 25 (subPs x) 5 v = fits Try.prog 23 v := by rw [partIs_of (o := 36) (T := 23) (by kernel_rfl)]; simp [subPs, AV.sizes, AV.size]
theorem subSet_5 {x : Sub} {y : Dig} : (subPs x).set 5 (.dig y) = subPs { x with data := y } := nr rfl
theorem sizes_sub {x : Sub} : AV.sizes (subPs x) = 68 := by simp [subPs, AV.sizes, AV.size]
theorem shapes_sub {x : Sub} : AV.shapes (subPs x) = [.leaf, .leaf, .leaf, .leaf, .dig, .dig] := by simp [subPs, AV.shapes, AV.shape]
theorem fits_sub {v : AV} : fits Try.prog 25 v = (v.isAgg = true ∧ v.size = 68) := fits_agg (by kernel_rfl) (by kernel_rfl)
theorem zero_sub : zeroA Try.prog 12 25 = .agg (subPs sub0) := by kernel_rfl
theorem zt_sub : ZeroOf Try.prog 25 (.agg (subPs sub0)) = True := eq_true ⟨_, _, rfl, rfl, rfl, rfl, rfl⟩
theorem built_sub : Built Try.prog 25 = True := eq_true (by unfold Built; rw [Try.underlying25]; decide +kernel)
theorem strip_sub {x : Sub} : AV.strips (subPs x) = subPs x := by simp [subPs, AV.strips, AV.strip]
theorem noRef_sub {x : Sub} : AV.noRefs (subPs x) = true := by simp [subPs, AV.noRefs, AV.noRef]
structure Pend where
  client : Int
  num : Int
  kind : Int
  target : Int
  asked : Dig
  proof : Dig
def pend0 : Pend := ⟨0, 0, 0, 0, dig0, dig0⟩
def pendPs (x : Pend) : List AV := [.int .i64 x.client, .int .i64 x.num, .int .i64 x.kind, .int .i64 x.target, .dig x.asked, .dig x.proof]
abbrev pendV (x : Pend) : AV := .agg (pendPs x)
theorem pendPs_0 {x : Pend} : (pendPs x)[0]? = some (.int .i64 x.client) := nr rfl
theorem pendAt_0 {x : Pend} {v : AV} : partIs Try.prog 98 (pendPs x) 0 v = fits Try.prog 3 v := by rw [partIs_of (o := 0) (T := 3) (by kernel_rfl)]; simp [pendPs, AV.sizes, AV.size]
theorem pendSet_0 {x : Pend} {y : Int} : (pendPs x).set 0 (.int .i64 y) = pendPs { x with client := y } := nr rfl
theorem pendPs_1 {x : Pend} : (pendPs x)[1]? = some (.int .i64 x.num) := nr rfl
theorem pendAt_1 {x : Pend} {v : AV} : partIs Try.prog 98 (pendPs x) 1 v = fits Try.prog 3 v := by rw [partIs_of (o := 1) (T := 3) (by kernel_rfl)]; simp [pendPs, AV.sizes, AV.size]
theorem pendSet_1 {x : Pend} {y : Int} : (pendPs x).set 1 (.int .i64 y) = pendPs { x with num := y } := nr rfl
theorem pendPs_2 {x : Pend} : (pendPs x)[2]? = some (.int .i64 x.kind) := nr rfl
theorem pendAt_2 {x : Pend} {v : AV} : partIs Try.prog 98 (pendPs x) 2 v = fits Try.prog 3 v := by rw [partIs_of (o := 2) (T := 3) (by kernel_rfl)]; simp [pendPs, AV.sizes, AV.size]
theorem pendSet_2 {x : Pend} {y : Int} : (pendPs x).set 2 (.int .i64 y) = pendPs { x with kind := y } := nr rfl
theorem pendPs_3 {x : Pend} : (pendPs x)[3]? = some (.int .i64 x.target) := nr rfl
theorem pendAt_3 {x : Pend} {v : AV} : partIs Try.prog 98 (pendPs x) 3 v = fits Try.prog 3 v := by rw [partIs_of (o := 3) (T := 3) (by kernel_rfl)]; simp [pendPs, AV.sizes, AV.size]
theorem pendSet_3 {x : Pend} {y : Int} : (pendPs x).set 3 (.int .i64 y) = pendPs { x with target := y } := nr rfl
theorem pendPs_4 {x : Pend} : (pendPs x)[4]? = some (.dig x.asked) := nr rfl
theorem pendAt_4 {x : Pend} {v : AV} : partIs Try.prog 98 (pendPs x) 4 v = fits Try.prog 23 v := by rw [partIs_of (o := 4) (T := 23) (by kernel_rfl)]; simp [pendPs, AV.sizes, AV.size]
theorem pendSet_4 {x : Pend} {y : Dig} : (pendPs x).set 4 (.dig y) = pendPs { x with asked := y } := nr rfl
theorem pendPs_5 {x : Pend} : (pendPs x)[5]? = some (.dig x.proof) := nr rfl
theorem pendAt_5 {x : Pend} {v : AV} : partIs Try.prog 98 (pendPs x) 5 v = fits Try.prog 23 v := by rw [partIs_of (o := 36) (T := 23) (by kernel_rfl)]; simp [pendPs, AV.sizes, AV.size]
theorem pendSet_5 {x : Pend} {y : Dig} : (pendPs x).set 5 (.dig y) = pendPs { x with proof := y } := nr rfl
theorem sizes_pend {x : Pend} : AV.sizes (pendPs x) = 68 := by simp [pendPs, AV.sizes, AV.size]
theorem shapes_pend {x : Pend} : AV.shapes (pendPs x) = [.leaf, .leaf, .leaf, .leaf, .dig, .dig] := by simp [pendPs, AV.shapes, AV.shape]
theorem fits_pend {v : AV} : fits Try.prog 98 v = (v.isAgg = true ∧ v.size = 68) := fits_agg (by kernel_rfl) (by kernel_rfl)
theorem zero_pend : zeroA Try.prog 12 98 = .agg (pendPs pend0) := by kernel_rfl
theorem zt_pend : ZeroOf Try.prog 98 (.agg (pendPs pend0)) = True := eq_true ⟨_, _, rfl, rfl, rfl, rfl, rfl⟩
theorem built_pend : Built Try.prog 98 = True := eq_true (by unfold Built; rw [Try.underlying98]; decide +kernel)
theorem strip_pend {x : Pend} : AV.strips (pendPs x) = pendPs x := by simp [pendPs, AV.strips, AV.strip]
theorem noRef_pend {x : Pend} : AV.noRefs (pendPs x) = true := by simp [pendPs, AV.noRefs, AV.noRef]
structure Rep where
  num : Int
  last : Int
  view : List UInt8
  commit : Dig
  pending : List Pend
  vnum : Int
  value : List UInt8
  data : Dig
  seen : List UInt8
  seenTag : Dig
def rep0 : Rep := ⟨0, 0, [], dig0, [], 0, [], dig0, [], dig0⟩
def repPs (t0 : Tk) (x : Rep) : List AV := [.int .i64 x.num, .int .i64 x.last, .str x.view, .dig x.commit, .slice t0 (x.pending.map pendV), .int .i64 x.vnum, .str x.value, .dig x.data, .str x.seen, .dig x.seenTag]
abbrev repV (t0 : Tk) (x : Rep) : AV := .agg (repPs t0 x)
theorem repPs_0 {t0 : Tk} {x : Rep} : (repPs t0 x)[0]? = some (.int .i64 x.num) := nr rfl
theorem repAt_0 {t0 : Tk} {x : Rep} {v : AV} : partIs Try.prog 28 (repPs t0 x) 0 v = fits Try.prog 3 v := by rw [partIs_of (o := 0) (T := 3) (by kernel_rfl)]; simp [repPs, AV.sizes, AV.size]
theorem repSet_0 {t0 : Tk} {x : Rep} {y : Int} : (repPs t0 x).set 0 (.int .i64 y) = repPs t0 { x with num := y } := nr rfl
theorem repPs_1 {t0 : Tk} {x : Rep} : (repPs t0 x)[1]? = some (.int .i64 x.last) := nr rfl
theorem repAt_1 {t0 : Tk} {x : Rep} {v : AV} : partIs Try.prog 28 (repPs t0 x) 1 v = fits Try.prog 3 v := by rw [partIs_of (o := 1) (T := 3) (by kernel_rfl)]; simp [repPs, AV.sizes, AV.size]
theorem repSet_1 {t0 : Tk} {x : Rep} {y : Int} : (repPs t0 x).set 1 (.int .i64 y) = repPs t0 { x with last := y } := nr rfl
theorem repPs_2 {t0 : Tk} {x : Rep} : (repPs t0 x)[2]? = some (.str x.view) := nr rfl
theorem repAt_2 {t0 : Tk} {x : Rep} {v : AV} : partIs Try.prog 28 (repPs t0 x) 2 v = fits Try.prog 9 v := by rw [partIs_of (o := 2) (T := 9) (by kernel_rfl)]; simp [repPs, AV.sizes, AV.size]
theorem repSet_2 {t0 : Tk} {x : Rep} {y : List UInt8} : (repPs t0 x).set 2 (.str y) = repPs t0 { x with view := y } := nr rfl
theorem repPs_3 {t0 : Tk} {x : Rep} : (repPs t0 x)[3]? = some (.dig x.commit) := nr rfl
theorem repAt_3 {t0 : Tk} {x : Rep} {v : AV} : partIs Try.prog 28 (repPs t0 x) 3 v = fits Try.prog 23 v := by rw [partIs_of (o := 3) (T := 23) (by kernel_rfl)]; simp [repPs, AV.sizes, AV.size]
theorem repSet_3 {t0 : Tk} {x : Rep} {y : Dig} : (repPs t0 x).set 3 (.dig y) = repPs t0 { x with commit := y } := nr rfl
theorem repPs_4 {t0 : Tk} {x : Rep} : (repPs t0 x)[4]? = some (.slice t0 (x.pending.map pendV)) := nr rfl
theorem repAt_4 {t0 : Tk} {x : Rep} {v : AV} : partIs Try.prog 28 (repPs t0 x) 4 v = fits Try.prog 26 v := by rw [partIs_of (o := 35) (T := 26) (by kernel_rfl)]; simp [repPs, AV.sizes, AV.size]
theorem repSet_4 {t0 : Tk} {u0 : Tk} {x : Rep} {y : List Pend} : (repPs t0 x).set 4 (.slice u0 (y.map pendV)) = repPs u0 { x with pending := y } := nr rfl
theorem repPs_5 {t0 : Tk} {x : Rep} : (repPs t0 x)[5]? = some (.int .i64 x.vnum) := nr rfl
theorem repAt_5 {t0 : Tk} {x : Rep} {v : AV} : partIs Try.prog 28 (repPs t0 x) 5 v = fits Try.prog 3 v := by rw [partIs_of (o := 36) (T := 3) (by kernel_rfl)]; simp [repPs, AV.sizes, AV.size]
theorem repSet_5 {t0 : Tk} {x : Rep} {y : Int} : (repPs t0 x).set 5 (.int .i64 y) = repPs t0 { x with vnum := y } := nr rfl
theorem repPs_6 {t0 : Tk} {x : Rep} : (repPs t0 x)[6]? = some (.str x.value) := nr rfl
theorem repAt_6 {t0 : Tk} {x : Rep} {v : AV} : partIs Try.prog 28 (repPs t0 x) 6 v = fits Try.prog 9 v := by rw [partIs_of (o := 37) (T := 9) (by kernel_rfl)]; simp [repPs, AV.sizes, AV.size]
theorem repSet_6 {t0 : Tk} {x : Rep} {y : List UInt8} : (repPs t0 x).set 6 (.str y) = repPs t0 { x with value := y } := nr rfl
theorem repPs_7 {t0 : Tk} {x : Rep} : (repPs t0 x)[7]? = some (.dig x.data) := nr rfl
theorem repAt_7 {t0 : Tk} {x : Rep} {v : AV} : partIs Try.prog 28 (repPs t0 x) 7 v = fits Try.prog 23 v := by rw [partIs_of (o := 38) (T := 23) (by kernel_rfl)]; simp [repPs, AV.sizes, AV.size]
theorem repSet_7 {t0 : Tk} {x : Rep} {y : Dig} : (repPs t0 x).set 7 (.dig y) = repPs t0 { x with data := y } := nr rfl
theorem repPs_8 {t0 : Tk} {x : Rep} : (repPs t0 x)[8]? = some (.str x.seen) := nr rfl
theorem repAt_8 {t0 : Tk} {x : Rep} {v : AV} : partIs Try.prog 28 (repPs t0 x) 8 v = fits Try.prog 9 v := by rw [partIs_of (o := 70) (T := 9) (by kernel_rfl)]; simp [repPs, AV.sizes, AV.size]
theorem repSet_8 {t0 : Tk} {x : Rep} {y : List UInt8} : (repPs t0 x).set 8 (.str y) = repPs t0 { x with seen := y } := nr rfl
theorem repPs_9 {t0 : Tk} {x : Rep} : (repPs t0 x)[9]? = some (.dig x.seenTag) := nr rfl
theorem repAt_9 {t0 : Tk} {x : Rep} {v : AV} : partIs Try.prog 28 (repPs t0 x) 9 v = fits Try.prog 23 v := by rw [partIs_of (o := 71) (T := 23) (by kernel_rfl)]; simp [repPs, AV.sizes, AV.size]
theorem repSet_9 {t0 : Tk} {x : Rep} {y : Dig} : (repPs t0 x).set 9 (.dig y) = repPs t0 { x with seenTag := y } := nr rfl
theorem sizes_rep {t0 : Tk} {x : Rep} : AV.sizes (repPs t0 x) = 103 := by simp [repPs, AV.sizes, AV.size]
theorem shapes_rep {t0 : Tk} {x : Rep} : AV.shapes (repPs t0 x) = [.leaf, .leaf, .leaf, .dig, .leaf, .leaf, .leaf, .dig, .leaf, .dig] := by simp [repPs, AV.shapes, AV.shape]
theorem fits_rep {v : AV} : fits Try.prog 28 v = (v.isAgg = true ∧ v.size = 103) := fits_agg (by kernel_rfl) (by kernel_rfl)
theorem zero_rep : zeroA Try.prog 12 28 = .agg (repPs .full rep0) := by kernel_rfl
theorem zt_rep : ZeroOf Try.prog 28 (.agg (repPs .full rep0)) = True := eq_true ⟨_, _, rfl, rfl, rfl, rfl, rfl⟩
theorem built_rep : Built Try.prog 28 = True := eq_true (by unfold Built; rw [Try.underlying28]; decide +kernel)
structure Blob where
  owner : Int
  num : Int
  cipher : List UInt8
  tag : Dig
def blob0 : Blob := ⟨0, 0, [], dig0⟩
def blobPs (x : Blob) : List AV := [.int .i64 x.owner, .int .i64 x.num, .str x.cipher, .dig x.tag]
abbrev blobV (x : Blob) : AV := .agg (blobPs x)
theorem blobPs_0 {x : Blob} : (blobPs x)[0]? = some (.int .i64 x.owner) := nr rfl
theorem blobAt_0 {x : Blob} {v : AV} : partIs Try.prog 30 (blobPs x) 0 v = fits Try.prog 3 v := by rw [partIs_of (o := 0) (T := 3) (by kernel_rfl)]; simp [blobPs, AV.sizes, AV.size]
theorem blobSet_0 {x : Blob} {y : Int} : (blobPs x).set 0 (.int .i64 y) = blobPs { x with owner := y } := nr rfl
theorem blobPs_1 {x : Blob} : (blobPs x)[1]? = some (.int .i64 x.num) := nr rfl
theorem blobAt_1 {x : Blob} {v : AV} : partIs Try.prog 30 (blobPs x) 1 v = fits Try.prog 3 v := by rw [partIs_of (o := 1) (T := 3) (by kernel_rfl)]; simp [blobPs, AV.sizes, AV.size]
theorem blobSet_1 {x : Blob} {y : Int} : (blobPs x).set 1 (.int .i64 y) = blobPs { x with num := y } := nr rfl
theorem blobPs_2 {x : Blob} : (blobPs x)[2]? = some (.str x.cipher) := nr rfl
theorem blobAt_2 {x : Blob} {v : AV} : partIs Try.prog 30 (blobPs x) 2 v = fits Try.prog 9 v := by rw [partIs_of (o := 2) (T := 9) (by kernel_rfl)]; simp [blobPs, AV.sizes, AV.size]
theorem blobSet_2 {x : Blob} {y : List UInt8} : (blobPs x).set 2 (.str y) = blobPs { x with cipher := y } := nr rfl
theorem blobPs_3 {x : Blob} : (blobPs x)[3]? = some (.dig x.tag) := nr rfl
theorem blobAt_3 {x : Blob} {v : AV} : partIs Try.prog 30 (blobPs x) 3 v = fits Try.prog 23 v := by rw [partIs_of (o := 3) (T := 23) (by kernel_rfl)]; simp [blobPs, AV.sizes, AV.size]
theorem blobSet_3 {x : Blob} {y : Dig} : (blobPs x).set 3 (.dig y) = blobPs { x with tag := y } := nr rfl
theorem sizes_blob {x : Blob} : AV.sizes (blobPs x) = 35 := by simp [blobPs, AV.sizes, AV.size]
theorem shapes_blob {x : Blob} : AV.shapes (blobPs x) = [.leaf, .leaf, .leaf, .dig] := by simp [blobPs, AV.shapes, AV.shape]
theorem fits_blob {v : AV} : fits Try.prog 30 v = (v.isAgg = true ∧ v.size = 35) := fits_agg (by kernel_rfl) (by kernel_rfl)
theorem zero_blob : zeroA Try.prog 12 30 = .agg (blobPs blob0) := by kernel_rfl
theorem zt_blob : ZeroOf Try.prog 30 (.agg (blobPs blob0)) = True := eq_true ⟨_, _, rfl, rfl, rfl, rfl, rfl⟩
theorem built_blob : Built Try.prog 30 = True := eq_true (by unfold Built; rw [Try.underlying30]; decide +kernel)
theorem strip_blob {x : Blob} : AV.strips (blobPs x) = blobPs x := by simp [blobPs, AV.strips, AV.strip]
theorem noRef_blob {x : Blob} : AV.noRefs (blobPs x) = true := by simp [blobPs, AV.noRefs, AV.noRef]
structure Msg where
  kind : Int
  client : Int
  sub : Sub
  rep : Rep
  view : List UInt8
  by_ : Int
  tag : Dig
  own : Dig
  blob : Blob
  nums : List Int
def msg0 : Msg := ⟨0, 0, sub0, rep0, [], 0, dig0, dig0, blob0, []⟩
def msgPs (t0 t1 : Tk) (x : Msg) : List AV := [.int .i64 x.kind, .int .i64 x.client, .agg (subPs x.sub), .agg (repPs t0 x.rep), .str x.view, .int .i64 x.by_, .dig x.tag, .dig x.own, .agg (blobPs x.blob), .slice t1 (x.nums.map (AV.int .i64))]
abbrev msgV (t0 t1 : Tk) (x : Msg) : AV := .agg (msgPs t0 t1 x)
theorem msgPs_0 {t0 t1 : Tk} {x : Msg} : (msgPs t0 t1 x)[0]? = some (.int .i64 x.kind) := nr rfl
theorem msgAt_0 {t0 t1 : Tk} {x : Msg} {v : AV} : partIs Try.prog 33 (msgPs t0 t1 x) 0 v = fits Try.prog 3 v := by rw [partIs_of (o := 0) (T := 3) (by kernel_rfl)]; simp [msgPs, AV.sizes, AV.size]
theorem msgSet_0 {t0 t1 : Tk} {x : Msg} {y : Int} : (msgPs t0 t1 x).set 0 (.int .i64 y) = msgPs t0 t1 { x with kind := y } := nr rfl
theorem msgPs_1 {t0 t1 : Tk} {x : Msg} : (msgPs t0 t1 x)[1]? = some (.int .i64 x.client) := nr rfl
theorem msgAt_1 {t0 t1 : Tk} {x : Msg} {v : AV} : partIs Try.prog 33 (msgPs t0 t1 x) 1 v = fits Try.prog 3 v := by rw [partIs_of (o := 1) (T := 3) (by kernel_rfl)]; simp [msgPs, AV.sizes, AV.size]
theorem msgSet_1 {t0 t1 : Tk} {x : Msg} {y : Int} : (msgPs t0 t1 x).set 1 (.int .i64 y) = msgPs t0 t1 { x with client := y } := nr rfl
theorem msgPs_2 {t0 t1 : Tk} {x : Msg} : (msgPs t0 t1 x)[2]? = some (.agg (subPs x.sub)) := nr rfl
theorem msgAt_2 {t0 t1 : Tk} {x : Msg} {v : AV} : partIs Try.prog 33 (msgPs t0 t1 x) 2 v = fits Try.prog 25 v := by rw [partIs_of (o := 2) (T := 25) (by kernel_rfl)]; simp [msgPs, AV.sizes, AV.size]
theorem msgSet_2 {t0 t1 : Tk} {x : Msg} {y : Sub} : (msgPs t0 t1 x).set 2 (.agg (subPs y)) = msgPs t0 t1 { x with sub := y } := nr rfl
theorem msgPs_3 {t0 t1 : Tk} {x : Msg} : (msgPs t0 t1 x)[3]? = some (.agg (repPs t0 x.rep)) := nr rfl
theorem msgAt_3 {t0 t1 : Tk} {x : Msg} {v : AV} : partIs Try.prog 33 (msgPs t0 t1 x) 3 v = fits Try.prog 28 v := by rw [partIs_of (o := 70) (T := 28) (by kernel_rfl)]; simp [msgPs, AV.sizes, AV.size, sizes_sub]
theorem msgSet_3 {t0 t1 : Tk} {u0 : Tk} {x : Msg} {y : Rep} : (msgPs t0 t1 x).set 3 (.agg (repPs u0 y)) = msgPs u0 t1 { x with rep := y } := nr rfl
theorem msgPs_4 {t0 t1 : Tk} {x : Msg} : (msgPs t0 t1 x)[4]? = some (.str x.view) := nr rfl
theorem msgAt_4 {t0 t1 : Tk} {x : Msg} {v : AV} : partIs Try.prog 33 (msgPs t0 t1 x) 4 v = fits Try.prog 9 v := by rw [partIs_of (o := 173) (T := 9) (by kernel_rfl)]; simp [msgPs, AV.sizes, AV.size, sizes_sub, sizes_rep]
theorem msgSet_4 {t0 t1 : Tk} {x : Msg} {y : List UInt8} : (msgPs t0 t1 x).set 4 (.str y) = msgPs t0 t1 { x with view := y } := nr rfl
theorem msgPs_5 {t0 t1 : Tk} {x : Msg} : (msgPs t0 t1 x)[5]? = some (.int .i64 x.by_) := nr rfl
theorem msgAt_5 {t0 t1 : Tk} {x : Msg} {v : AV} : partIs Try.prog 33 (msgPs t0 t1 x) 5 v = fits Try.prog 3 v := by rw [partIs_of (o := 174) (T := 3) (by kernel_rfl)]; simp [msgPs, AV.sizes, AV.size, sizes_sub, sizes_rep]
theorem msgSet_5 {t0 t1 : Tk} {x : Msg} {y : Int} : (msgPs t0 t1 x).set 5 (.int .i64 y) = msgPs t0 t1 { x with by_ := y } := nr rfl
theorem msgPs_6 {t0 t1 : Tk} {x : Msg} : (msgPs t0 t1 x)[6]? = some (.dig x.tag) := nr rfl
theorem msgAt_6 {t0 t1 : Tk} {x : Msg} {v : AV} : partIs Try.prog 33 (msgPs t0 t1 x) 6 v = fits Try.prog 23 v := by rw [partIs_of (o := 175) (T := 23) (by kernel_rfl)]; simp [msgPs, AV.sizes, AV.size, sizes_sub, sizes_rep]
theorem msgSet_6 {t0 t1 : Tk} {x : Msg} {y : Dig} : (msgPs t0 t1 x).set 6 (.dig y) = msgPs t0 t1 { x with tag := y } := nr rfl
theorem msgPs_7 {t0 t1 : Tk} {x : Msg} : (msgPs t0 t1 x)[7]? = some (.dig x.own) := nr rfl
theorem msgAt_7 {t0 t1 : Tk} {x : Msg} {v : AV} : partIs Try.prog 33 (msgPs t0 t1 x) 7 v = fits Try.prog 23 v := by rw [partIs_of (o := 207) (T := 23) (by kernel_rfl)]; simp [msgPs, AV.sizes, AV.size, sizes_sub, sizes_rep]
theorem msgSet_7 {t0 t1 : Tk} {x : Msg} {y : Dig} : (msgPs t0 t1 x).set 7 (.dig y) = msgPs t0 t1 { x with own := y } := nr rfl
theorem msgPs_8 {t0 t1 : Tk} {x : Msg} : (msgPs t0 t1 x)[8]? = some (.agg (blobPs x.blob)) := nr rfl
theorem msgAt_8 {t0 t1 : Tk} {x : Msg} {v : AV} : partIs Try.prog 33 (msgPs t0 t1 x) 8 v = fits Try.prog 30 v := by rw [partIs_of (o := 239) (T := 30) (by kernel_rfl)]; simp [msgPs, AV.sizes, AV.size, sizes_sub, sizes_rep]
theorem msgSet_8 {t0 t1 : Tk} {x : Msg} {y : Blob} : (msgPs t0 t1 x).set 8 (.agg (blobPs y)) = msgPs t0 t1 { x with blob := y } := nr rfl
theorem msgPs_9 {t0 t1 : Tk} {x : Msg} : (msgPs t0 t1 x)[9]? = some (.slice t1 (x.nums.map (AV.int .i64))) := nr rfl
theorem msgAt_9 {t0 t1 : Tk} {x : Msg} {v : AV} : partIs Try.prog 33 (msgPs t0 t1 x) 9 v = fits Try.prog 31 v := by rw [partIs_of (o := 274) (T := 31) (by kernel_rfl)]; simp [msgPs, AV.sizes, AV.size, sizes_sub, sizes_rep, sizes_blob]
theorem msgSet_9 {t0 t1 : Tk} {u0 : Tk} {x : Msg} {y : List Int} : (msgPs t0 t1 x).set 9 (.slice u0 (y.map (AV.int .i64))) = msgPs t0 u0 { x with nums := y } := nr rfl
theorem sizes_msg {t0 t1 : Tk} {x : Msg} : AV.sizes (msgPs t0 t1 x) = 275 := by simp [msgPs, AV.sizes, AV.size, sizes_sub, sizes_rep, sizes_blob]
theorem shapes_msg {t0 t1 : Tk} {x : Msg} : AV.shapes (msgPs t0 t1 x) = [.leaf, .leaf, .node [.leaf, .leaf, .leaf, .leaf, .dig, .dig], .node [.leaf, .leaf, .leaf, .dig, .leaf, .leaf, .leaf, .dig, .leaf, .dig], .leaf, .leaf, .dig, .dig, .node [.leaf, .leaf, .leaf, .dig], .leaf] := by simp [msgPs, AV.shapes, AV.shape, shapes_sub, shapes_rep, shapes_blob]
theorem fits_msg {v : AV} : fits Try.prog 33 v = (v.isAgg = true ∧ v.size = 275) := fits_agg (by kernel_rfl) (by kernel_rfl)
theorem zero_msg : zeroA Try.prog 12 33 = .agg (msgPs .full .full msg0) := by kernel_rfl
theorem zt_msg : ZeroOf Try.prog 33 (.agg (msgPs .full .full msg0)) = True := eq_true ⟨_, _, rfl, rfl, rfl, rfl, rfl⟩
theorem built_msg : Built Try.prog 33 = True := eq_true (by unfold Built; rw [Try.underlying33]; decide +kernel)
structure At where
  n : Int
  e : Int
def at_0 : At := ⟨0, 0⟩
def at_Ps (x : At) : List AV := [.int .i64 x.n, .int .i64 x.e]
abbrev at_V (x : At) : AV := .agg (at_Ps x)
theorem at_Ps_0 {x : At} : (at_Ps x)[0]? = some (.int .i64 x.n) := nr rfl
theorem at_At_0 {x : At} {v : AV} : partIs Try.prog 77 (at_Ps x) 0 v = fits Try.prog 3 v := by rw [partIs_of (o := 0) (T := 3) (by kernel_rfl)]; simp [at_Ps, AV.sizes, AV.size]
theorem at_Set_0 {x : At} {y : Int} : (at_Ps x).set 0 (.int .i64 y) = at_Ps { x with n := y } := nr rfl
theorem at_Ps_1 {x : At} : (at_Ps x)[1]? = some (.int .i64 x.e) := nr rfl
theorem at_At_1 {x : At} {v : AV} : partIs Try.prog 77 (at_Ps x) 1 v = fits Try.prog 34 v := by rw [partIs_of (o := 1) (T := 34) (by kernel_rfl)]; simp [at_Ps, AV.sizes, AV.size]
theorem at_Set_1 {x : At} {y : Int} : (at_Ps x).set 1 (.int .i64 y) = at_Ps { x with e := y } := nr rfl
theorem sizes_at_ {x : At} : AV.sizes (at_Ps x) = 2 := by simp [at_Ps, AV.sizes, AV.size]
theorem shapes_at_ {x : At} : AV.shapes (at_Ps x) = [.leaf, .leaf] := by simp [at_Ps, AV.shapes, AV.shape]
theorem fits_at_ {v : AV} : fits Try.prog 77 v = (v.isAgg = true ∧ v.size = 2) := fits_agg (by kernel_rfl) (by kernel_rfl)
theorem zero_at_ : zeroA Try.prog 12 77 = .agg (at_Ps at_0) := by kernel_rfl
theorem zt_at_ : ZeroOf Try.prog 77 (.agg (at_Ps at_0)) = True := eq_true ⟨_, _, rfl, rfl, rfl, rfl, rfl⟩
theorem built_at_ : Built Try.prog 77 = True := eq_true (by unfold Built; rw [Try.underlying77]; decide +kernel)
theorem strip_at_ {x : At} : AV.strips (at_Ps x) = at_Ps x := by simp [at_Ps, AV.strips, AV.strip]
theorem noRef_at_ {x : At} : AV.noRefs (at_Ps x) = true := by simp [at_Ps, AV.noRefs, AV.noRef]
end Go.Aff.L10

/- Walking: arrays of bytes in memory as slices: as a text, copied into. -/
namespace Go.Aff
set_option linter.unusedVariables false
set_option linter.unusedSimpArgs false

variable {P : Program} {σ σ' : AST} {K : AV → AST → Prop} {KV : AV → Prop}

section
variable {dst : Option Nat} {ty : TypeId} {pos : String} {after : Array Edge} {gd : Option (Nat × Bool)} {ρ : Operand → AV}
theorem op_copy {x y : Operand} {ts : Array TypeId} : opW P ρ ⟨dst, .call ⟨.builtin .copy, #[x, y], ts⟩, ty, pos, after, gd⟩ σ K = copyW P ts (ρ x) (ρ y) σ K := nr rfl
end
def convA (o : Option AV) (K : AV → Prop) : Prop := match o with
  | some (.dig d) => K (.str d.l)
  | _ => False
theorem convA_dig {d : Dig} : convA (some (.dig d)) KV = KV (.str d.l) := nr rfl
theorem conv_arr {s d : TypeId} (hs : isSliceT P s = true) (he : P.underlying (elemT P s) = some (.int .u8)) (hd : P.underlying d = some .string) {i : Nat} {p : List Nat} : convW P s d (.arr i p 32) σ K = convA (cellAt σ i p) (At K σ) := by
  have hs := isSliceT_iff hs
  simp only [convW, cellAt]
  cases h : σ.objs[i]? with
  | none => simp [convA]
  | some o =>
    cases o with
    | cells v =>
      simp only [Option.bind_some, objCell]
      cases h2 : v.at p with
      | none => simp [convA]
      | some x =>
        cases x <;> simp only [convA]
        rename_i dg
        simp only [eq_iff_iff, true_and]
        constructor
        · rintro ⟨_, _, _, _, h⟩; exact h
        · intro h; exact ⟨_, hs, he, hd, h⟩
    | _ => simp [objCell, convA]
/-- Thirty-two bytes into a digest. -/
theorem copy_dig {t u e : TypeId} (hu : P.underlying t = some (.slice e)) (hc : P.cellsOf e = 1) (he : ∃ u, P.underlying e = some u) {i : Nat} {l : List UInt8} {dg : Dig} (ho : σ.objs[i]? = some (.cells (.dig dg))) (hl : l.length = 32)
    (hK : K (.int .i64 32) (σ.set i (.cells (.dig ⟨l, hl⟩)))) : copyW P ⟨[t, u]⟩ (.arr i [] 32) (.str l) σ K := by
  refine ⟨t, e, rfl, hu, hc, he, ?_⟩
  simp only [ho, at_nil]
  refine ⟨trivial, hl, by simp [setOk], ?_⟩
  simpa [AV.setAt] using hK
attribute [go_sem ↓] op_copy
attribute [go_sem] convA_dig
theorem bool_end {b c : Bool} (hK : K (.bool c) σ) (h : b = c) : K (.bool b) σ := h ▸ hK
theorem bool_endX {s : AST} {b c : Bool} (hx : Ext σ s) (hK : K (.bool c) σ) (h : b = c) : Ext σ s ∧ (AV.bool b).noRef = true ∧ K (AV.bool b).strip σ := ⟨hx, rfl, by subst h; simpa [AV.strip] using hK⟩
theorem bool_endD {b : Bool} {Q : Prop} {d : Decidable Q} (hK : K (.bool (@decide Q d)) σ) (h : b = true ↔ Q) : K (.bool b) σ := by
  have : b = @decide Q d := by rw [Bool.eq_iff_iff, decide_eq_true_eq]; exact h
  exact this ▸ hK
theorem bool_endDX {s : AST} {b : Bool} {Q : Prop} {d : Decidable Q} (hx : Ext σ s) (hK : K (.bool (@decide Q d)) σ) (h : b = true ↔ Q) : Ext σ s ∧ (AV.bool b).noRef = true ∧ K (AV.bool b).strip σ := ⟨hx, rfl, by simpa [AV.strip] using bool_endD hK h⟩
theorem get_pred {α : Type} {l : List α} {i : Nat} {y : α} (h : l[i]? = some y) (h0 : 0 < i) : l[i - 1]? = some (l[i - 1]'(by have := (List.getElem?_eq_some_iff.1 h).1; omega)) := List.getElem?_eq_getElem _
theorem nth_pred {α : Type} {l : List α} {i : Nat} {y : α} {F : α → Prop} (h : l[i]? = some y) (h0 : 0 < i) (hF : F (l[i - 1]'(by have := (List.getElem?_eq_some_iff.1 h).1; omega))) : nthW l ((i : Int) - 1) (@LamA _ ⟨F⟩) := by
  rw [show (i : Int) - 1 = ((i - 1 : Nat) : Int) by omega]; exact nth_get (get_pred h h0) hF
theorem keeps_cons {k : Nat} {ks : List Nat} : keeps (k :: ks) σ σ' = (σ'.objs[k]? = σ.objs[k]? ∧ keeps ks σ σ') := by simp [keeps]
theorem keeps_go {ks : List Nat} {R : Prop} (h : keeps ks σ σ') (hR : R) : @Later ⟨keeps ks σ σ' ∧ R⟩ := ⟨h, hR⟩
theorem reads_pick {ρ : Operand → AV} {a b c : Operand} : reads ρ (.pick a b c) = [] := rfl
theorem reads_makeFunc {ρ : Operand → AV} {f : Fn} {a b : Array Operand} : reads ρ (.makeFunc f a b) = [] := rfl
theorem reads_makeInterface {ρ : Operand → AV} {t : TypeId} {x : Operand} : reads ρ (.makeInterface t x) = [] := rfl
attribute [go_sem] reads_pick reads_makeFunc reads_makeInterface
/-- A loop over places. -/
theorem get_of_lt {α : Type} {l : List α} {i : Nat} (h : i < l.length) : ∃ y, l[i]? = some y ∧ y ∈ l := ⟨l[i], List.getElem?_eq_getElem h, List.getElem_mem h⟩
end Go.Aff

/- Layer 10: structs compared. -/
namespace Go.Aff.L10
open Go.Proofs Go.Aff Go.Aff.L01 Classical
set_option linter.unusedVariables false
set_option linter.unusedSimpArgs false
set_option maxRecDepth 20000
theorem dig_ext {a b : Dig} : a.l = b.l ↔ a = b := by
  cases a; cases b; simp
theorem eq_int3 {n : Nat} {a b : Int} : eqA Try.prog (n + 1) 3 (.int .i64 a) (.int .i64 b) = some (a == b) := by
  simp [eqA, Try.underlying3]
theorem eq_str9 {n : Nat} {a b : List UInt8} : eqA Try.prog (n + 1) 9 (.str a) (.str b) = some (a == b) := by
  simp [eqA, Try.underlying9]
theorem eq_dig23 {n : Nat} {a b : Dig} : eqA Try.prog (n + 4) 23 (.dig a) (.dig b) = some (a.l == b.l) := by
  have h : digT Try.prog 23 = true := by kernel_rfl
  obtain ⟨_, e, h2, h3, h4⟩ := digT_iff h
  simp [eqA, h2, h3, h4]
theorem eqAs_cons {n i : Nat} {t : TypeId} {f : Field} {fs : List Field} {x y : AV} {xs ys ax ay : List AV} (h : (f.name ≠ "_" ∧ f.offset = AV.sizes (ax.take i) ∧ f.offset = AV.sizes (ay.take i) ∧ aggT Try.prog f.type = some x.isAgg ∧ Try.prog.cellsOf f.type = x.size ∧ aggT Try.prog f.type = some y.isAgg ∧ Try.prog.cellsOf f.type = y.size)) {b : Bool} (hb : eqA Try.prog n f.type x y = some b) :
    eqAs Try.prog (n + 1) t i (f :: fs) (x :: xs) (y :: ys) ax ay = if b = true then eqAs Try.prog n t (i + 1) fs xs ys ax ay else some false := by
  simp only [eqAs]
  rw [if_pos h, hb]
  cases b <;> rfl
theorem eq_sub {a b : Sub} : eqA Try.prog 40 25 (.agg (subPs a)) (.agg (subPs b)) = some (decide (a = b)) := by
  have hs : Try.prog.stoodInHeld 25 = false := by kernel_rfl
  simp only [eqA, Try.underlying25, hs, if_true]
  unfold subPs
  rw [eqAs_cons ⟨by decide, by simp [AV.sizes, AV.size], by simp [AV.sizes, AV.size], by kernel_rfl, by simp [AV.size]; kernel_rfl, by kernel_rfl, by simp [AV.size]; kernel_rfl⟩ eq_int3]
  refine (Classical.em (a.num = b.num)).elim (fun h0 => ?_) (fun h0 => by rw [if_neg (by simpa [dig_ext] using h0), decide_eq_false (fun e => h0 (congrArg Sub.num e))])
  rw [if_pos (by simpa [dig_ext] using h0)]
  rw [eqAs_cons ⟨by decide, by simp [AV.sizes, AV.size], by simp [AV.sizes, AV.size], by kernel_rfl, by simp [AV.size]; kernel_rfl, by kernel_rfl, by simp [AV.size]; kernel_rfl⟩ eq_int3]
  refine (Classical.em (a.kind = b.kind)).elim (fun h1 => ?_) (fun h1 => by rw [if_neg (by simpa [dig_ext] using h1), decide_eq_false (fun e => h1 (congrArg Sub.kind e))])
  rw [if_pos (by simpa [dig_ext] using h1)]
  rw [eqAs_cons ⟨by decide, by simp [AV.sizes, AV.size], by simp [AV.sizes, AV.size], by kernel_rfl, by simp [AV.size]; kernel_rfl, by kernel_rfl, by simp [AV.size]; kernel_rfl⟩ eq_int3]
  refine (Classical.em (a.target = b.target)).elim (fun h2 => ?_) (fun h2 => by rw [if_neg (by simpa [dig_ext] using h2), decide_eq_false (fun e => h2 (congrArg Sub.target e))])
  rw [if_pos (by simpa [dig_ext] using h2)]
  rw [eqAs_cons ⟨by decide, by simp [AV.sizes, AV.size], by simp [AV.sizes, AV.size], by kernel_rfl, by simp [AV.size]; kernel_rfl, by kernel_rfl, by simp [AV.size]; kernel_rfl⟩ eq_str9]
  refine (Classical.em (a.value = b.value)).elim (fun h3 => ?_) (fun h3 => by rw [if_neg (by simpa [dig_ext] using h3), decide_eq_false (fun e => h3 (congrArg Sub.value e))])
  rw [if_pos (by simpa [dig_ext] using h3)]
  rw [eqAs_cons ⟨by decide, by simp [AV.sizes, AV.size], by simp [AV.sizes, AV.size], by kernel_rfl, by simp [AV.size]; kernel_rfl, by kernel_rfl, by simp [AV.size]; kernel_rfl⟩ eq_dig23]
  refine (Classical.em (a.asked = b.asked)).elim (fun h4 => ?_) (fun h4 => by rw [if_neg (by simpa [dig_ext] using h4), decide_eq_false (fun e => h4 (congrArg Sub.asked e))])
  rw [if_pos (by simpa [dig_ext] using h4)]
  rw [eqAs_cons ⟨by decide, by simp [AV.sizes, AV.size], by simp [AV.sizes, AV.size], by kernel_rfl, by simp [AV.size]; kernel_rfl, by kernel_rfl, by simp [AV.size]; kernel_rfl⟩ eq_dig23]
  refine (Classical.em (a.data = b.data)).elim (fun h5 => ?_) (fun h5 => by rw [if_neg (by simpa [dig_ext] using h5), decide_eq_false (fun e => h5 (congrArg Sub.data e))])
  rw [if_pos (by simpa [dig_ext] using h5)]
  rw [decide_eq_true (by cases a; cases b; simp_all)]; simp only [eqAs]
theorem bin_sub_eql {a b : Sub} {KV : AV → Prop} : binW Try.prog .eql 25 (.agg (subPs a)) (.agg (subPs b)) KV = KV (.bool (decide (a = b))) := by
  have h : Try.prog.eqGuardType Try.prog.depth 25 = false := by kernel_rfl
  simp [binW, eqW, eq_sub, h]
theorem bin_sub_neq {a b : Sub} {KV : AV → Prop} : binW Try.prog .neq 25 (.agg (subPs a)) (.agg (subPs b)) KV = KV (.bool !(decide (a = b))) := by
  have h : Try.prog.eqGuardType Try.prog.depth 25 = false := by kernel_rfl
  simp [binW, eqW, eq_sub, h]
theorem eq_pend {a b : Pend} : eqA Try.prog 40 98 (.agg (pendPs a)) (.agg (pendPs b)) = some (decide (a = b)) := by
  have hs : Try.prog.stoodInHeld 98 = false := by kernel_rfl
  simp only [eqA, Try.underlying98, hs, if_true]
  unfold pendPs
  rw [eqAs_cons ⟨by decide, by simp [AV.sizes, AV.size], by simp [AV.sizes, AV.size], by kernel_rfl, by simp [AV.size]; kernel_rfl, by kernel_rfl, by simp [AV.size]; kernel_rfl⟩ eq_int3]
  refine (Classical.em (a.client = b.client)).elim (fun h0 => ?_) (fun h0 => by rw [if_neg (by simpa [dig_ext] using h0), decide_eq_false (fun e => h0 (congrArg Pend.client e))])
  rw [if_pos (by simpa [dig_ext] using h0)]
  rw [eqAs_cons ⟨by decide, by simp [AV.sizes, AV.size], by simp [AV.sizes, AV.size], by kernel_rfl, by simp [AV.size]; kernel_rfl, by kernel_rfl, by simp [AV.size]; kernel_rfl⟩ eq_int3]
  refine (Classical.em (a.num = b.num)).elim (fun h1 => ?_) (fun h1 => by rw [if_neg (by simpa [dig_ext] using h1), decide_eq_false (fun e => h1 (congrArg Pend.num e))])
  rw [if_pos (by simpa [dig_ext] using h1)]
  rw [eqAs_cons ⟨by decide, by simp [AV.sizes, AV.size], by simp [AV.sizes, AV.size], by kernel_rfl, by simp [AV.size]; kernel_rfl, by kernel_rfl, by simp [AV.size]; kernel_rfl⟩ eq_int3]
  refine (Classical.em (a.kind = b.kind)).elim (fun h2 => ?_) (fun h2 => by rw [if_neg (by simpa [dig_ext] using h2), decide_eq_false (fun e => h2 (congrArg Pend.kind e))])
  rw [if_pos (by simpa [dig_ext] using h2)]
  rw [eqAs_cons ⟨by decide, by simp [AV.sizes, AV.size], by simp [AV.sizes, AV.size], by kernel_rfl, by simp [AV.size]; kernel_rfl, by kernel_rfl, by simp [AV.size]; kernel_rfl⟩ eq_int3]
  refine (Classical.em (a.target = b.target)).elim (fun h3 => ?_) (fun h3 => by rw [if_neg (by simpa [dig_ext] using h3), decide_eq_false (fun e => h3 (congrArg Pend.target e))])
  rw [if_pos (by simpa [dig_ext] using h3)]
  rw [eqAs_cons ⟨by decide, by simp [AV.sizes, AV.size], by simp [AV.sizes, AV.size], by kernel_rfl, by simp [AV.size]; kernel_rfl, by kernel_rfl, by simp [AV.size]; kernel_rfl⟩ eq_dig23]
  refine (Classical.em (a.asked = b.asked)).elim (fun h4 => ?_) (fun h4 => by rw [if_neg (by simpa [dig_ext] using h4), decide_eq_false (fun e => h4 (congrArg Pend.asked e))])
  rw [if_pos (by simpa [dig_ext] using h4)]
  rw [eqAs_cons ⟨by decide, by simp [AV.sizes, AV.size], by simp [AV.sizes, AV.size], by kernel_rfl, by simp [AV.size]; kernel_rfl, by kernel_rfl, by simp [AV.size]; kernel_rfl⟩ eq_dig23]
  refine (Classical.em (a.proof = b.proof)).elim (fun h5 => ?_) (fun h5 => by rw [if_neg (by simpa [dig_ext] using h5), decide_eq_false (fun e => h5 (congrArg Pend.proof e))])
  rw [if_pos (by simpa [dig_ext] using h5)]
  rw [decide_eq_true (by cases a; cases b; simp_all)]; simp only [eqAs]
theorem bin_pend_eql {a b : Pend} {KV : AV → Prop} : binW Try.prog .eql 98 (.agg (pendPs a)) (.agg (pendPs b)) KV = KV (.bool (decide (a = b))) := by
  have h : Try.prog.eqGuardType Try.prog.depth 98 = false := by kernel_rfl
  simp [binW, eqW, eq_pend, h]
theorem bin_pend_neq {a b : Pend} {KV : AV → Prop} : binW Try.prog .neq 98 (.agg (pendPs a)) (.agg (pendPs b)) KV = KV (.bool !(decide (a = b))) := by
  have h : Try.prog.eqGuardType Try.prog.depth 98 = false := by kernel_rfl
  simp [binW, eqW, eq_pend, h]
theorem eq_blob {a b : Blob} : eqA Try.prog 40 30 (.agg (blobPs a)) (.agg (blobPs b)) = some (decide (a = b)) := by
  have hs : Try.prog.stoodInHeld 30 = false := by kernel_rfl
  simp only [eqA, Try.underlying30, hs, if_true]
  unfold blobPs
  rw [eqAs_cons ⟨by decide, by simp [AV.sizes, AV.size], by simp [AV.sizes, AV.size], by kernel_rfl, by simp [AV.size]; kernel_rfl, by kernel_rfl, by simp [AV.size]; kernel_rfl⟩ eq_int3]
  refine (Classical.em (a.owner = b.owner)).elim (fun h0 => ?_) (fun h0 => by rw [if_neg (by simpa [dig_ext] using h0), decide_eq_false (fun e => h0 (congrArg Blob.owner e))])
  rw [if_pos (by simpa [dig_ext] using h0)]
  rw [eqAs_cons ⟨by decide, by simp [AV.sizes, AV.size], by simp [AV.sizes, AV.size], by kernel_rfl, by simp [AV.size]; kernel_rfl, by kernel_rfl, by simp [AV.size]; kernel_rfl⟩ eq_int3]
  refine (Classical.em (a.num = b.num)).elim (fun h1 => ?_) (fun h1 => by rw [if_neg (by simpa [dig_ext] using h1), decide_eq_false (fun e => h1 (congrArg Blob.num e))])
  rw [if_pos (by simpa [dig_ext] using h1)]
  rw [eqAs_cons ⟨by decide, by simp [AV.sizes, AV.size], by simp [AV.sizes, AV.size], by kernel_rfl, by simp [AV.size]; kernel_rfl, by kernel_rfl, by simp [AV.size]; kernel_rfl⟩ eq_str9]
  refine (Classical.em (a.cipher = b.cipher)).elim (fun h2 => ?_) (fun h2 => by rw [if_neg (by simpa [dig_ext] using h2), decide_eq_false (fun e => h2 (congrArg Blob.cipher e))])
  rw [if_pos (by simpa [dig_ext] using h2)]
  rw [eqAs_cons ⟨by decide, by simp [AV.sizes, AV.size], by simp [AV.sizes, AV.size], by kernel_rfl, by simp [AV.size]; kernel_rfl, by kernel_rfl, by simp [AV.size]; kernel_rfl⟩ eq_dig23]
  refine (Classical.em (a.tag = b.tag)).elim (fun h3 => ?_) (fun h3 => by rw [if_neg (by simpa [dig_ext] using h3), decide_eq_false (fun e => h3 (congrArg Blob.tag e))])
  rw [if_pos (by simpa [dig_ext] using h3)]
  rw [decide_eq_true (by cases a; cases b; simp_all)]; simp only [eqAs]
theorem bin_blob_eql {a b : Blob} {KV : AV → Prop} : binW Try.prog .eql 30 (.agg (blobPs a)) (.agg (blobPs b)) KV = KV (.bool (decide (a = b))) := by
  have h : Try.prog.eqGuardType Try.prog.depth 30 = false := by kernel_rfl
  simp [binW, eqW, eq_blob, h]
theorem bin_blob_neq {a b : Blob} {KV : AV → Prop} : binW Try.prog .neq 30 (.agg (blobPs a)) (.agg (blobPs b)) KV = KV (.bool !(decide (a = b))) := by
  have h : Try.prog.eqGuardType Try.prog.depth 30 = false := by kernel_rfl
  simp [binW, eqW, eq_blob, h]
theorem fits4 {v : AV} : fits Try.prog 4 v = (v.isAgg = false ∧ v.size = 1) := fits_leaf (by kernel_rfl) (by kernel_rfl)
theorem fits5 {v : AV} : fits Try.prog 5 v = (v.isAgg = false ∧ v.size = 1) := fits_leaf (by kernel_rfl) (by kernel_rfl)
theorem fits26 {v : AV} : fits Try.prog 26 v = (v.isAgg = false ∧ v.size = 1) := fits_leaf (by kernel_rfl) (by kernel_rfl)
theorem fits31 {v : AV} : fits Try.prog 31 v = (v.isAgg = false ∧ v.size = 1) := fits_leaf (by kernel_rfl) (by kernel_rfl)
theorem fits34 {v : AV} : fits Try.prog 34 v = (v.isAgg = false ∧ v.size = 1) := fits_leaf (by kernel_rfl) (by kernel_rfl)
theorem fits52 {v : AV} : fits Try.prog 52 v = (v.isAgg = false ∧ v.size = 1) := fits_leaf (by kernel_rfl) (by kernel_rfl)
theorem fits23 {v : AV} : fits Try.prog 23 v = (v.isAgg = true ∧ v.size = 32) := fits_agg (by kernel_rfl) (by kernel_rfl)
theorem zero3 : zeroA Try.prog 12 3 = .int .i64 0 := by kernel_rfl
theorem zt3 : ZeroOf Try.prog 3 (.int .i64 0) = True := eq_true ⟨_, _, rfl, rfl, rfl, rfl, rfl⟩
theorem zero34 : zeroA Try.prog 12 34 = .int .i64 0 := by kernel_rfl
theorem zt34 : ZeroOf Try.prog 34 (.int .i64 0) = True := eq_true ⟨_, _, rfl, rfl, rfl, rfl, rfl⟩
theorem zero23 : zeroA Try.prog 12 23 = .dig dig0 := by kernel_rfl
theorem zt23 : ZeroOf Try.prog 23 (.dig dig0) = True := eq_true ⟨_, _, rfl, rfl, rfl, rfl, rfl⟩
theorem slice23 {σ : AST} {KV : AV → Prop} {j : Nat} {p : List Nat} : sliceW Try.prog 23 (.ptr (some (j, p))) none none none KV = KV (.arr j p 32) := by
  have hu : Try.prog.underlying 23 = some (.array 32 5) := Try.underlying23
  simp only [sliceW, bndW, arrOfT, hu, eq_iff_iff]
  constructor
  · rintro ⟨e, n, h, _, _, _, _, _, h2⟩
    rcases h with ⟨a, h, _⟩ | h
    · cases h
    · cases h; exact h2
  · intro h
    exact ⟨5, 32, .inr rfl, by decide, ⟨_, Try.underlying5⟩, rfl, rfl, Nat.le_refl _, h⟩
theorem Sub.iff {a b : Sub} : a = b ↔ a.num = b.num ∧ a.kind = b.kind ∧ a.target = b.target ∧ a.value = b.value ∧ a.asked = b.asked ∧ a.data = b.data := by cases a; cases b; simp
theorem Pend.iff {a b : Pend} : a = b ↔ a.client = b.client ∧ a.num = b.num ∧ a.kind = b.kind ∧ a.target = b.target ∧ a.asked = b.asked ∧ a.proof = b.proof := by cases a; cases b; simp
theorem Rep.iff {a b : Rep} : a = b ↔ a.num = b.num ∧ a.last = b.last ∧ a.view = b.view ∧ a.commit = b.commit ∧ a.pending = b.pending ∧ a.vnum = b.vnum ∧ a.value = b.value ∧ a.data = b.data ∧ a.seen = b.seen ∧ a.seenTag = b.seenTag := by cases a; cases b; simp
theorem Blob.iff {a b : Blob} : a = b ↔ a.owner = b.owner ∧ a.num = b.num ∧ a.cipher = b.cipher ∧ a.tag = b.tag := by cases a; cases b; simp
theorem Msg.iff {a b : Msg} : a = b ↔ a.kind = b.kind ∧ a.client = b.client ∧ a.sub = b.sub ∧ a.rep = b.rep ∧ a.view = b.view ∧ a.by_ = b.by_ ∧ a.tag = b.tag ∧ a.own = b.own ∧ a.blob = b.blob ∧ a.nums = b.nums := by cases a; cases b; simp
theorem bin_dig23_eql {KV : AV → Prop} {a b : Dig} : binW Try.prog .eql 23 (.dig a) (.dig b) KV = KV (.bool (a.l == b.l)) := bin_dig_eql (by kernel_rfl)
theorem bin_dig23_neq {KV : AV → Prop} {a b : Dig} : binW Try.prog .neq 23 (.dig a) (.dig b) KV = KV (.bool !(a.l == b.l)) := bin_dig_neq (by kernel_rfl)
end Go.Aff.L10

/- Layer 10, plainly: which messages may be, and their bytes. -/
namespace Go.Aff.L10
open Go.Proofs Go.Aff Go.Aff.L01 Classical
set_option linter.unusedVariables false

def In (lo hi n : Int) : Prop := lo ≤ n ∧ n ≤ hi
def ViewOk (k : Int) (h : List UInt8) : Prop := (∀ b ∈ h, (b.toNat : Int) < k) ∧ h.length ≤ 512 ∧ 1 ≤ k ∧ k ≤ 256
def Sub.Ok (x : Sub) : Prop := In 1 512 x.num ∧ In 1 2 x.kind ∧ In 0 7 x.target ∧ x.value.length ≤ 256
def Pend.Ok (p : Pend) : Prop := In 0 7 p.client ∧ In 0 7 p.target ∧ In 1 512 p.num ∧ In 1 2 p.kind
def Rep.Ok (x : Rep) : Prop := (∀ p ∈ x.pending, p.Ok) ∧ In 1 512 x.num ∧ In (-1) 7 x.last ∧ (x.view = [] ↔ x.last = -1) ∧ x.pending.length ≤ 8 ∧ ViewOk 8 x.view ∧ ViewOk 8 x.seen ∧ In 0 512 x.vnum ∧ x.value.length ≤ 256
def Blob.Ok (b : Blob) : Prop := In 0 7 b.owner ∧ In 0 1099511627776 b.num ∧ b.cipher.length ≤ 4096
def NumsOk (l : List Int) : Prop := (∀ (i : Nat) n, l[i]? = some n → In 0 1099511627776 n ∧ ∀ m, 0 < i → l[i - 1]? = some m → m < n) ∧ In 1 64 l.length
/-- A message with the fields of its kind alone. -/
def Msg.own_ (m : Msg) : Msg :=
  if m.kind = 1 then { msg0 with kind := m.kind, client := m.client, sub := m.sub }
  else if m.kind = 2 then { msg0 with kind := m.kind, client := 0, rep := m.rep }
  else if m.kind = 3 then { msg0 with kind := m.kind, client := m.client, view := m.view, tag := m.tag }
  else if m.kind = 4 ∨ m.kind = 6 then { msg0 with kind := m.kind, client := 0, blob := m.blob }
  else if m.kind = 5 ∨ m.kind = 7 ∨ m.kind = 8 then { msg0 with kind := m.kind, client := m.client, nums := m.nums }
  else if m.kind = 10 then { msg0 with kind := m.kind, client := m.client, by_ := m.by_, view := m.view, tag := m.tag, own := m.own }
  else if m.kind = 11 then { msg0 with kind := m.kind, client := m.client, own := m.own }
  else { msg0 with kind := m.kind, client := m.client }
def Msg.FieldsOk (m : Msg) : Prop :=
  if m.kind = 1 then m.sub.Ok
  else if m.kind = 2 then m.rep.Ok
  else if m.kind = 3 then m.view ≠ [] ∧ ViewOk 8 m.view
  else if m.kind = 4 ∨ m.kind = 6 then m.blob.Ok
  else if m.kind = 5 ∨ m.kind = 7 ∨ m.kind = 8 then NumsOk m.nums
  else if m.kind = 10 then In 0 7 m.by_ ∧ m.view ≠ [] ∧ ViewOk 8 m.view
  else m.kind = 9 ∨ m.kind = 11
def Msg.Ok (m : Msg) : Prop := m.FieldsOk ∧ In 0 7 m.client ∧ m.own_ = m
end Go.Aff.L10

