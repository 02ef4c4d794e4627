import Derived.Test.YtipnjeciaagabaaG20
import Derived.Test.YtipnjeciaagabaaG18

set_option linter.unusedSimpArgs false
set_option linter.unusedVariables false

/- Layer 10: structs compared. -/
namespace Go.Aff.L10
open Go.Proofs Go.Aff Go.Aff.L01 Classical
set_option linter.unusedVariables false
set_option linter.unusedSimpArgs false
set_option maxRecDepth 20000
theorem dig_ext {a b : Dig} : a.l = b.l ↔ a = b := by
  cases a; cases b; simp
theorem eq_int3 {n : Nat} {a b : Int} : eqA Try.prog (n + 1) 3 (.int .i64 a) (.int .i64 b) = some (a == b) := by
  simp [eqA, Try.underlying3]
theorem eq_str9 {n : Nat} {a b : List UInt8} : eqA Try.prog (n + 1) 9 (.str a) (.str b) = some (a == b) := by
  simp [eqA, Try.underlying9]
theorem eq_dig23 {n : Nat} {a b : Dig} : eqA Try.prog (n + 4) 30 (.dig a) (.dig b) = some (a.l == b.l) := by
  have h : digT Try.prog 30 = true := by kernel_rfl
  obtain ⟨_, e, h2, h3, h4⟩ := digT_iff h
  simp [eqA, h2, h3, h4]
theorem eqAs_cons {n i : Nat} {t : TypeId} {f : Field} {fs : List Field} {x y : AV} {xs ys ax ay : List AV} (h : (f.name ≠ "_" ∧ f.offset = AV.sizes (ax.take i) ∧ f.offset = AV.sizes (ay.take i) ∧ aggT Try.prog f.type = some x.isAgg ∧ Try.prog.cellsOf f.type = x.size ∧ aggT Try.prog f.type = some y.isAgg ∧ Try.prog.cellsOf f.type = y.size)) {b : Bool} (hb : eqA Try.prog n f.type x y = some b) :
    eqAs Try.prog (n + 1) t i (f :: fs) (x :: xs) (y :: ys) ax ay = if b = true then eqAs Try.prog n t (i + 1) fs xs ys ax ay else some false := by
  simp only [eqAs]
  rw [if_pos h, hb]
  cases b <;> rfl
theorem eq_sub {a b : Sub} : eqA Try.prog 40 32 (.agg (subPs a)) (.agg (subPs b)) = some (decide (a = b)) := by
  have hs : Try.prog.stoodInHeld 32 = false := by kernel_rfl
  simp only [eqA, Try.underlying32, hs, if_true]
  unfold subPs
  rw [eqAs_cons ⟨by decide, by simp [AV.sizes, AV.size], by simp [AV.sizes, AV.size], by kernel_rfl, by simp [AV.size]; kernel_rfl, by kernel_rfl, by simp [AV.size]; kernel_rfl⟩ eq_int3]
  refine (Classical.em (a.num = b.num)).elim (fun h0 => ?_) (fun h0 => by rw [if_neg (by simpa [dig_ext] using h0), decide_eq_false (fun e => h0 (congrArg Sub.num e))])
  rw [if_pos (by simpa [dig_ext] using h0)]
  rw [eqAs_cons ⟨by decide, by simp [AV.sizes, AV.size], by simp [AV.sizes, AV.size], by kernel_rfl, by simp [AV.size]; kernel_rfl, by kernel_rfl, by simp [AV.size]; kernel_rfl⟩ eq_int3]
  refine (Classical.em (a.kind = b.kind)).elim (fun h1 => ?_) (fun h1 => by rw [if_neg (by simpa [dig_ext] using h1), decide_eq_false (fun e => h1 (congrArg Sub.kind e))])
  rw [if_pos (by simpa [dig_ext] using h1)]
  rw [eqAs_cons ⟨by decide, by simp [AV.sizes, AV.size], by simp [AV.sizes, AV.size], by kernel_rfl, by simp [AV.size]; kernel_rfl, by kernel_rfl, by simp [AV.size]; kernel_rfl⟩ eq_int3]
  refine (Classical.em (a.target = b.target)).elim (fun h2 => ?_) (fun h2 => by rw [if_neg (by simpa [dig_ext] using h2), decide_eq_false (fun e => h2 (congrArg Sub.target e))])
  rw [if_pos (by simpa [dig_ext] using h2)]
  rw [eqAs_cons ⟨by decide, by simp [AV.sizes, AV.size], by simp [AV.sizes, AV.size], by kernel_rfl, by simp [AV.size]; kernel_rfl, by kernel_rfl, by simp [AV.size]; kernel_rfl⟩ eq_str9]
  refine (Classical.em (a.value = b.value)).elim (fun h3 => ?_) (fun h3 => by rw [if_neg (by simpa [dig_ext] using h3), decide_eq_false (fun e => h3 (congrArg Sub.value e))])
  rw [if_pos (by simpa [dig_ext] using h3)]
  rw [eqAs_cons ⟨by decide, by simp [AV.sizes, AV.size], by simp [AV.sizes, AV.size], by kernel_rfl, by simp [AV.size]; kernel_rfl, by kernel_rfl, by simp [AV.size]; kernel_rfl⟩ eq_dig23]
  refine (Classical.em (a.asked = b.asked)).elim (fun h4 => ?_) (fun h4 => by rw [if_neg (by simpa [dig_ext] using h4), decide_eq_false (fun e => h4 (congrArg Sub.asked e))])
  rw [if_pos (by simpa [dig_ext] using h4)]
  rw [eqAs_cons ⟨by decide, by simp [AV.sizes, AV.size], by simp [AV.sizes, AV.size], by kernel_rfl, by simp [AV.size]; kernel_rfl, by kernel_rfl, by simp [AV.size]; kernel_rfl⟩ eq_dig23]
  refine (Classical.em (a.data = b.data)).elim (fun h5 => ?_) (fun h5 => by rw [if_neg (by simpa [dig_ext] using h5), decide_eq_false (fun e => h5 (congrArg Sub.data e))])
  rw [if_pos (by simpa [dig_ext] using h5)]
  rw [decide_eq_true (by cases a; cases b; simp_all)]; simp only [eqAs]
theorem bin_sub_eql {a b : Sub} {KV : AV → Prop} : binW Try.prog .eql 32 (.agg (subPs a)) (.agg (subPs b)) KV = KV (.bool (decide (a = b))) := by
  have h : Try.prog.eqGuardType Try.prog.depth 25 = false := by kernel_rfl
  simp [binW, eqW, eq_sub, h]
theorem bin_sub_neq {a b : Sub} {KV : AV → Prop} : binW Try.prog .neq 32 (.agg (subPs a)) (.agg (subPs b)) KV = KV (.bool !(decide (a = b))) := by
  have h : Try.prog.eqGuardType Try.prog.depth 25 = false := by kernel_rfl
  simp [binW, eqW, eq_sub, h]
theorem eq_pend {a b : Pend} : eqA Try.prog 40 98 (.agg (pendPs a)) (.agg (pendPs b)) = some (decide (a = b)) := by
  have hs : Try.prog.stoodInHeld 98 = false := by kernel_rfl
  simp only [eqA, Try.underlying98, hs, if_true]
  unfold pendPs
  rw [eqAs_cons ⟨by decide, by simp [AV.sizes, AV.size], by simp [AV.sizes, AV.size], by kernel_rfl, by simp [AV.size]; kernel_rfl, by kernel_rfl, by simp [AV.size]; kernel_rfl⟩ eq_int3]
  refine (Classical.em (a.client = b.client)).elim (fun h0 => ?_) (fun h0 => by rw [if_neg (by simpa [dig_ext] using h0), decide_eq_false (fun e => h0 (congrArg Pend.client e))])
  rw [if_pos (by simpa [dig_ext] using h0)]
  rw [eqAs_cons ⟨by decide, by simp [AV.sizes, AV.size], by simp [AV.sizes, AV.size], by kernel_rfl, by simp [AV.size]; kernel_rfl, by kernel_rfl, by simp [AV.size]; kernel_rfl⟩ eq_int3]
  refine (Classical.em (a.num = b.num)).elim (fun h1 => ?_) (fun h1 => by rw [if_neg (by simpa [dig_ext] using h1), decide_eq_false (fun e => h1 (congrArg Pend.num e))])
  rw [if_pos (by simpa [dig_ext] using h1)]
  rw [eqAs_cons ⟨by decide, by simp [AV.sizes, AV.size], by simp [AV.sizes, AV.size], by kernel_rfl, by simp [AV.size]; kernel_rfl, by kernel_rfl, by simp [AV.size]; kernel_rfl⟩ eq_int3]
  refine (Classical.em (a.kind = b.kind)).elim (fun h2 => ?_) (fun h2 => by rw [if_neg (by simpa [dig_ext] using h2), decide_eq_false (fun e => h2 (congrArg Pend.kind e))])
  rw [if_pos (by simpa [dig_ext] using h2)]
  rw [eqAs_cons ⟨by decide, by simp [AV.sizes, AV.size], by simp [AV.sizes, AV.size], by kernel_rfl, by simp [AV.size]; kernel_rfl, by kernel_rfl, by simp [AV.size]; kernel_rfl⟩ eq_int3]
  refine (Classical.em (a.target = b.target)).elim (fun h3 => ?_) (fun h3 => by rw [if_neg (by simpa [dig_ext] using h3), decide_eq_false (fun e => h3 (congrArg Pend.target e))])
  rw [if_pos (by simpa [dig_ext] using h3)]
  rw [eqAs_cons ⟨by decide, by simp [AV.sizes, AV.size], by simp [AV.sizes, AV.size], by kernel_rfl, by simp [AV.size]; kernel_rfl, by kernel_rfl, by simp [AV.size]; kernel_rfl⟩ eq_dig23]
  refine (Classical.em (a.asked = b.asked)).elim (fun h4 => ?_) (fun h4 => by rw [if_neg (by simpa [dig_ext] using h4), decide_eq_false (fun e => h4 (congrArg Pend.asked e))])
  rw [if_pos (by simpa [dig_ext] using h4)]
  rw [eqAs_cons ⟨by decide, by simp [AV.sizes, AV.size], by simp [AV.sizes, AV.size], by kernel_rfl, by simp [AV.size]; kernel_rfl, by kernel_rfl, by simp [AV.size]; kernel_rfl⟩ eq_dig23]
  refine (Classical.em (a.proof = b.proof)).elim (fun h5 => ?_) (fun h5 => by rw [if_neg (by simpa [dig_ext] using h5), decide_eq_false (fun e => h5 (congrArg Pend.proof e))])
  rw [if_pos (by simpa [dig_ext] using h5)]
  rw [decide_eq_true (by cases a; cases b; simp_all)]; simp only [eqAs]
theorem bin_pend_eql {a b : Pend} {KV : AV → Prop} : binW Try.prog .eql 98 (.agg (pendPs a)) (.agg (pendPs b)) KV = KV (.bool (decide (a = b))) := by
  have h : Try.prog.eqGuardType Try.prog.depth 98 = false := by kernel_rfl
  simp [binW, eqW, eq_pend, h]
theorem bin_pend_neq {a b : Pend} {KV : AV → Prop} : binW Try.prog .neq 98 (.agg (pendPs a)) (.agg (pendPs b)) KV = KV (.bool !(decide (a = b))) := by
  have h : Try.prog.eqGuardType Try.prog.depth 98 = false := by kernel_rfl
  simp [binW, eqW, eq_pend, h]
theorem eq_blob {a b : Blob} : eqA Try.prog 40 37 (.agg (blobPs a)) (.agg (blobPs b)) = some (decide (a = b)) := by
  have hs : Try.prog.stoodInHeld 37 = false := by kernel_rfl
  simp only [eqA, Try.underlying37, hs, if_true]
  unfold blobPs
  rw [eqAs_cons ⟨by decide, by simp [AV.sizes, AV.size], by simp [AV.sizes, AV.size], by kernel_rfl, by simp [AV.size]; kernel_rfl, by kernel_rfl, by simp [AV.size]; kernel_rfl⟩ eq_int3]
  refine (Classical.em (a.owner = b.owner)).elim (fun h0 => ?_) (fun h0 => by rw [if_neg (by simpa [dig_ext] using h0), decide_eq_false (fun e => h0 (congrArg Blob.owner e))])
  rw [if_pos (by simpa [dig_ext] using h0)]
  rw [eqAs_cons ⟨by decide, by simp [AV.sizes, AV.size], by simp [AV.sizes, AV.size], by kernel_rfl, by simp [AV.size]; kernel_rfl, by kernel_rfl, by simp [AV.size]; kernel_rfl⟩ eq_int3]
  refine (Classical.em (a.num = b.num)).elim (fun h1 => ?_) (fun h1 => by rw [if_neg (by simpa [dig_ext] using h1), decide_eq_false (fun e => h1 (congrArg Blob.num e))])
  rw [if_pos (by simpa [dig_ext] using h1)]
  rw [eqAs_cons ⟨by decide, by simp [AV.sizes, AV.size], by simp [AV.sizes, AV.size], by kernel_rfl, by simp [AV.size]; kernel_rfl, by kernel_rfl, by simp [AV.size]; kernel_rfl⟩ eq_str9]
  refine (Classical.em (a.cipher = b.cipher)).elim (fun h2 => ?_) (fun h2 => by rw [if_neg (by simpa [dig_ext] using h2), decide_eq_false (fun e => h2 (congrArg Blob.cipher e))])
  rw [if_pos (by simpa [dig_ext] using h2)]
  rw [eqAs_cons ⟨by decide, by simp [AV.sizes, AV.size], by simp [AV.sizes, AV.size], by kernel_rfl, by simp [AV.size]; kernel_rfl, by kernel_rfl, by simp [AV.size]; kernel_rfl⟩ eq_dig23]
  refine (Classical.em (a.tag = b.tag)).elim (fun h3 => ?_) (fun h3 => by rw [if_neg (by simpa [dig_ext] using h3), decide_eq_false (fun e => h3 (congrArg Blob.tag e))])
  rw [if_pos (by simpa [dig_ext] using h3)]
  rw [decide_eq_true (by cases a; cases b; simp_all)]; simp only [eqAs]
theorem bin_blob_eql {a b : Blob} {KV : AV → Prop} : binW Try.prog .eql 37 (.agg (blobPs a)) (.agg (blobPs b)) KV = KV (.bool (decide (a = b))) := by
  have h : Try.prog.eqGuardType Try.prog.depth 30 = false := by kernel_rfl
  simp [binW, eqW, eq_blob, h]
theorem bin_blob_neq {a b : Blob} {KV : AV → Prop} : binW Try.prog .neq 37 (.agg (blobPs a)) (.agg (blobPs b)) KV = KV (.bool !(decide (a = b))) := by
  have h : Try.prog.eqGuardType Try.prog.depth 30 = false := by kernel_rfl
  simp [binW, eqW, eq_blob, h]
theorem fits4 {v : AV} : fits Try.prog 4 v = (v.isAgg = false ∧ v.size = 1) := fits_leaf (by kernel_rfl) (by kernel_rfl)
theorem fits5 {v : AV} : fits Try.prog 5 v = (v.isAgg = false ∧ v.size = 1) := fits_leaf (by kernel_rfl) (by kernel_rfl)
theorem fits26 {v : AV} : fits Try.prog 33 v = (v.isAgg = false ∧ v.size = 1) := fits_leaf (by kernel_rfl) (by kernel_rfl)
theorem fits31 {v : AV} : fits Try.prog 38 v = (v.isAgg = false ∧ v.size = 1) := fits_leaf (by kernel_rfl) (by kernel_rfl)
theorem fits34 {v : AV} : fits Try.prog 24 v = (v.isAgg = false ∧ v.size = 1) := fits_leaf (by kernel_rfl) (by kernel_rfl)
theorem fits52 {v : AV} : fits Try.prog 89 v = (v.isAgg = false ∧ v.size = 1) := fits_leaf (by kernel_rfl) (by kernel_rfl)
theorem fits23 {v : AV} : fits Try.prog 30 v = (v.isAgg = true ∧ v.size = 32) := fits_agg (by kernel_rfl) (by kernel_rfl)
theorem zero3 : zeroA Try.prog 12 3 = .int .i64 0 := by kernel_rfl
theorem zt3 : ZeroOf Try.prog 3 (.int .i64 0) = True := eq_true ⟨_, _, rfl, rfl, rfl, rfl, rfl⟩
theorem zero34 : zeroA Try.prog 12 24 = .int .i64 0 := by kernel_rfl
theorem zt34 : ZeroOf Try.prog 24 (.int .i64 0) = True := eq_true ⟨_, _, rfl, rfl, rfl, rfl, rfl⟩
theorem zero23 : zeroA Try.prog 12 30 = .dig dig0 := by kernel_rfl
theorem zt23 : ZeroOf Try.prog 30 (.dig dig0) = True := eq_true ⟨_, _, rfl, rfl, rfl, rfl, rfl⟩
theorem slice23 {σ : AST} {KV : AV → Prop} {j : Nat} {p : List Nat} : sliceW Try.prog 30 (.ptr (some (j, p))) none none none KV = KV (.arr j p 32) := by
  have hu : Try.prog.underlying 30 = some (.array 32 5) := Try.underlying30
  simp only [sliceW, bndW, arrOfT, hu, eq_iff_iff]
  constructor
  · rintro ⟨e, n, h, _, _, _, _, _, h2⟩
    rcases h with ⟨a, h, _⟩ | h
    · cases h
    · cases h; exact h2
  · intro h
    exact ⟨5, 32, .inr rfl, by decide, ⟨_, Try.underlying5⟩, rfl, rfl, Nat.le_refl _, h⟩
theorem Sub.iff {a b : Sub} : a = b ↔ a.num = b.num ∧ a.kind = b.kind ∧ a.target = b.target ∧ a.value = b.value ∧ a.asked = b.asked ∧ a.data = b.data := by cases a; cases b; simp
theorem Pend.iff {a b : Pend} : a = b ↔ a.client = b.client ∧ a.num = b.num ∧ a.kind = b.kind ∧ a.target = b.target ∧ a.asked = b.asked ∧ a.proof = b.proof := by cases a; cases b; simp
theorem Rep.iff {a b : Rep} : a = b ↔ a.num = b.num ∧ a.last = b.last ∧ a.view = b.view ∧ a.commit = b.commit ∧ a.pending = b.pending ∧ a.vnum = b.vnum ∧ a.value = b.value ∧ a.data = b.data ∧ a.seen = b.seen ∧ a.seenTag = b.seenTag := by cases a; cases b; simp
theorem Blob.iff {a b : Blob} : a = b ↔ a.owner = b.owner ∧ a.num = b.num ∧ a.cipher = b.cipher ∧ a.tag = b.tag := by cases a; cases b; simp
theorem Msg.iff {a b : Msg} : a = b ↔ a.kind = b.kind ∧ a.client = b.client ∧ a.sub = b.sub ∧ a.rep = b.rep ∧ a.view = b.view ∧ a.by_ = b.by_ ∧ a.tag = b.tag ∧ a.own = b.own ∧ a.blob = b.blob ∧ a.nums = b.nums := by cases a; cases b; simp
theorem bin_dig23_eql {KV : AV → Prop} {a b : Dig} : binW Try.prog .eql 30 (.dig a) (.dig b) KV = KV (.bool (a.l == b.l)) := bin_dig_eql (by kernel_rfl)
theorem bin_dig23_neq {KV : AV → Prop} {a b : Dig} : binW Try.prog .neq 30 (.dig a) (.dig b) KV = KV (.bool !(a.l == b.l)) := bin_dig_neq (by kernel_rfl)
end Go.Aff.L10

/- Layer 10, plainly: which messages may be, and their bytes. -/
namespace Go.Aff.L10
open Go.Proofs Go.Aff Go.Aff.L01 Classical
set_option linter.unusedVariables false

def In (lo hi n : Int) : Prop := lo ≤ n ∧ n ≤ hi
def ViewOk (k : Int) (h : List UInt8) : Prop := (∀ b ∈ h, (b.toNat : Int) < k) ∧ h.length ≤ 512 ∧ 1 ≤ k ∧ k ≤ 256
def Sub.Ok (x : Sub) : Prop := In 1 512 x.num ∧ In 1 2 x.kind ∧ In 0 7 x.target ∧ x.value.length ≤ 256
def Pend.Ok (p : Pend) : Prop := In 0 7 p.client ∧ In 0 7 p.target ∧ In 1 512 p.num ∧ In 1 2 p.kind
def Rep.Ok (x : Rep) : Prop := (∀ p ∈ x.pending, p.Ok) ∧ In 1 512 x.num ∧ In (-1) 7 x.last ∧ (x.view = [] ↔ x.last = -1) ∧ x.pending.length ≤ 8 ∧ ViewOk 8 x.view ∧ ViewOk 8 x.seen ∧ In 0 512 x.vnum ∧ x.value.length ≤ 256
def Blob.Ok (b : Blob) : Prop := In 0 7 b.owner ∧ In 0 1099511627776 b.num ∧ b.cipher.length ≤ 4096
def NumsOk (l : List Int) : Prop := (∀ (i : Nat) n, l[i]? = some n → In 0 1099511627776 n ∧ ∀ m, 0 < i → l[i - 1]? = some m → m < n) ∧ In 1 64 l.length
/-- A message with the fields of its kind alone. -/
def Msg.own_ (m : Msg) : Msg :=
  if m.kind = 1 then { msg0 with kind := m.kind, client := m.client, sub := m.sub }
  else if m.kind = 2 then { msg0 with kind := m.kind, client := 0, rep := m.rep }
  else if m.kind = 3 then { msg0 with kind := m.kind, client := m.client, view := m.view, tag := m.tag }
  else if m.kind = 4 ∨ m.kind = 6 then { msg0 with kind := m.kind, client := 0, blob := m.blob }
  else if m.kind = 5 ∨ m.kind = 7 ∨ m.kind = 8 then { msg0 with kind := m.kind, client := m.client, nums := m.nums }
  else if m.kind = 10 then { msg0 with kind := m.kind, client := m.client, by_ := m.by_, view := m.view, tag := m.tag, own := m.own }
  else if m.kind = 11 then { msg0 with kind := m.kind, client := m.client, own := m.own }
  else { msg0 with kind := m.kind, client := m.client }
def Msg.FieldsOk (m : Msg) : Prop :=
  if m.kind = 1 then m.sub.Ok
  else if m.kind = 2 then m.rep.Ok
  else if m.kind = 3 then m.view ≠ [] ∧ ViewOk 8 m.view
  else if m.kind = 4 ∨ m.kind = 6 then m.blob.Ok
  else if m.kind = 5 ∨ m.kind = 7 ∨ m.kind = 8 then NumsOk m.nums
  else if m.kind = 10 then In 0 7 m.by_ ∧ m.view ≠ [] ∧ ViewOk 8 m.view
  else m.kind = 9 ∨ m.kind = 11
def Msg.Ok (m : Msg) : Prop := m.FieldsOk ∧ In 0 7 m.client ∧ m.own_ = m
end Go.Aff.L10

/- Layer 10, walked: what may be: numbers, submits, blobs, views. -/
namespace Go.Aff.L10
open Go.Proofs Go.Aff Go.Aff.L01 Classical
set_option linter.unusedVariables false
set_option linter.unusedSimpArgs false
set_option maxRecDepth 20000
attribute [local go_sem] push_app app_app length_app cellAt_app cellAt_app0 set_app set_app0 objs_app objs_app0 List.cons_append List.nil_append List.length_cons List.length_nil List.getElem?_cons_zero List.getElem?_cons_succ List.set_cons_zero List.set_cons_succ List.length_map
attribute [-go_sem] cellAt_new
attribute [-simp] List.length_flatMap
attribute [local go_sem] Try.underlying3 Try.underlying4 Try.underlying5 Try.underlying9 Try.underlying29 Try.underlying30 Try.underlying33 Try.underlying38 Try.underlying24 Try.underlying89 subPs_0 subAt_0 subSet_0 subPs_1 subAt_1 subSet_1 subPs_2 subAt_2 subSet_2 subPs_3 subAt_3 subSet_3 subPs_4 subAt_4 subSet_4 subPs_5 subAt_5 subSet_5 sizes_sub shapes_sub fits_sub zero_sub zt_sub built_sub Try.underlying32 pendPs_0 pendAt_0 pendSet_0 pendPs_1 pendAt_1 pendSet_1 pendPs_2 pendAt_2 pendSet_2 pendPs_3 pendAt_3 pendSet_3 pendPs_4 pendAt_4 pendSet_4 pendPs_5 pendAt_5 pendSet_5 sizes_pend shapes_pend fits_pend zero_pend zt_pend built_pend Try.underlying98 repPs_0 repAt_0 repSet_0 repPs_1 repAt_1 repSet_1 repPs_2 repAt_2 repSet_2 repPs_3 repAt_3 repSet_3 repPs_4 repAt_4 repSet_4 repPs_5 repAt_5 repSet_5 repPs_6 repAt_6 repSet_6 repPs_7 repAt_7 repSet_7 repPs_8 repAt_8 repSet_8 repPs_9 repAt_9 repSet_9 sizes_rep shapes_rep fits_rep zero_rep zt_rep built_rep Try.underlying35 blobPs_0 blobAt_0 blobSet_0 blobPs_1 blobAt_1 blobSet_1 blobPs_2 blobAt_2 blobSet_2 blobPs_3 blobAt_3 blobSet_3 sizes_blob shapes_blob fits_blob zero_blob zt_blob built_blob Try.underlying37 msgPs_0 msgAt_0 msgSet_0 msgPs_1 msgAt_1 msgSet_1 msgPs_2 msgAt_2 msgSet_2 msgPs_3 msgAt_3 msgSet_3 msgPs_4 msgAt_4 msgSet_4 msgPs_5 msgAt_5 msgSet_5 msgPs_6 msgAt_6 msgSet_6 msgPs_7 msgAt_7 msgSet_7 msgPs_8 msgAt_8 msgSet_8 msgPs_9 msgAt_9 msgSet_9 sizes_msg shapes_msg fits_msg zero_msg zt_msg built_msg Try.underlying40 at_Ps_0 at_Set_0 at_Ps_1 at_Set_1 sizes_at_ shapes_at_
attribute [local go_sem] fits3 fits4 fits5 fits9 fits23 fits26 fits31 fits34 fits52 zt3 zero3 zt34 zero34 zt23 zero23 bin_sub_eql bin_pend_eql bin_pend_neq bin_blob_eql bin_dig23_eql bin_dig23_neq slice23
attribute [local go_sem ↓] blockQ_exit2
attribute [local simp] dig_ext

theorem within_c {n lo hi : Int} {σ : AST} {K : AV → AST → Prop} (hK : K (.bool (decide (In lo hi n))) σ) : TCalls Try.prog 68 [.int .i64 n, .int .i64 lo, .int .i64 hi] σ K := by
  refine tcalls_walk Try.f68 _ [.tmp 6] Try.func68 rfl rfl rfl mixed (Nat.le_of_ble_eq_true rfl) rfl fun hlen => ?_
  repeat' (first | (simp -dsimp only [↓reduceIte, go_sem]) | (refine arr_intro fun _ => ?_) | (refine later_intro ⟨keeps_nil, ?_⟩) | (refine later_intro ⟨keeps_refl, ?_⟩) | (with_reducible refine keeps_go ?_ ?_; focus (first | (simp [keeps_cons, keeps_none, objs_app, objs_app0]; done) | (simp only [keeps_cons, keeps_none, objs_app0, objs_app, and_true]; first | rfl | exact ⟨rfl, rfl⟩ | exact ⟨rfl, rfl, rfl⟩))) | (with_reducible refine (And.intro (a := keeps _ _ _) ?_ ?_); focus (first | (simp [keeps_cons, keeps_none, objs_app, objs_app0]; done) | (simp only [keeps_cons, keeps_none, objs_app0, objs_app, and_true]; first | rfl | exact ⟨rfl, rfl⟩ | exact ⟨rfl, rfl, rfl⟩))) | (refine both_ways ?_ ?_) | (rw [wrap_i64 (by omega) (by omega)]) | (refine guardV_split (fun h => ?_) (fun h => ?_) <;> (try rw [h]) <;> (try simp at h) <;> (try (exfalso; omega))))
  all_goals (first | exact hK | (exfalso; omega) | (refine bool_endD hK ?_; simp_all [In] <;> fail) | (refine bool_endDX (Ext.app _ _) hK ?_; simp_all [In] <;> fail) | (refine bool_endDX (Ext.refl _) hK ?_; simp_all [In] <;> fail) | (refine bool_endDX hx hK ?_; simp_all [In] <;> fail) | (refine bool_endD hK ?_; simp [In]; omega) | (refine bool_endDX (Ext.app _ _) hK ?_; simp [In]; omega) | (refine bool_endDX (Ext.refl _) hK ?_; simp [In]; omega) | (refine bool_endDX hx hK ?_; simp [In]; omega) | (refine bool_endD hK ?_; simp_all [In]; omega) | (refine bool_endDX (Ext.app _ _) hK ?_; simp_all [In]; omega) | (refine bool_endDX (Ext.refl _) hK ?_; simp_all [In]; omega) | (refine bool_endDX hx hK ?_; simp_all [In]; omega) | (refine bool_endD hK ?_; simp_all [In] <;> omega) | (refine bool_endDX (Ext.app _ _) hK ?_; simp_all [In] <;> omega) | (refine bool_endDX (Ext.refl _) hK ?_; simp_all [In] <;> omega) | (refine bool_endDX hx hK ?_; simp_all [In] <;> omega))
theorem Within_c {n lo hi : Int} {σ : AST} {K : AV → AST → Prop} (hK : K (.bool (decide (In lo hi n))) σ) : TCalls Try.prog 46 [.int .i64 n, .int .i64 lo, .int .i64 hi] σ K := by
  refine tcalls_walk Try.f46 _ [.tmp 6] Try.func46 rfl rfl rfl mixed (Nat.le_of_ble_eq_true rfl) rfl fun hlen => ?_
  repeat' (first | (simp -dsimp only [↓reduceIte, go_sem]) | (refine arr_intro fun _ => ?_) | (refine later_intro ⟨keeps_nil, ?_⟩) | (refine later_intro ⟨keeps_refl, ?_⟩) | (with_reducible refine keeps_go ?_ ?_; focus (first | (simp [keeps_cons, keeps_none, objs_app, objs_app0]; done) | (simp only [keeps_cons, keeps_none, objs_app0, objs_app, and_true]; first | rfl | exact ⟨rfl, rfl⟩ | exact ⟨rfl, rfl, rfl⟩))) | (with_reducible refine (And.intro (a := keeps _ _ _) ?_ ?_); focus (first | (simp [keeps_cons, keeps_none, objs_app, objs_app0]; done) | (simp only [keeps_cons, keeps_none, objs_app0, objs_app, and_true]; first | rfl | exact ⟨rfl, rfl⟩ | exact ⟨rfl, rfl, rfl⟩))) | (refine both_ways ?_ ?_) | (rw [wrap_i64 (by omega) (by omega)]) | (refine guardV_split (fun h => ?_) (fun h => ?_) <;> (try rw [h]) <;> (try simp at h) <;> (try (exfalso; omega))))
  all_goals (first | exact hK | (exfalso; omega) | (refine bool_endD hK ?_; simp_all [In] <;> fail) | (refine bool_endDX (Ext.app _ _) hK ?_; simp_all [In] <;> fail) | (refine bool_endDX (Ext.refl _) hK ?_; simp_all [In] <;> fail) | (refine bool_endDX hx hK ?_; simp_all [In] <;> fail) | (refine bool_endD hK ?_; simp [In]; omega) | (refine bool_endDX (Ext.app _ _) hK ?_; simp [In]; omega) | (refine bool_endDX (Ext.refl _) hK ?_; simp [In]; omega) | (refine bool_endDX hx hK ?_; simp [In]; omega) | (refine bool_endD hK ?_; simp_all [In]; omega) | (refine bool_endDX (Ext.app _ _) hK ?_; simp_all [In]; omega) | (refine bool_endDX (Ext.refl _) hK ?_; simp_all [In]; omega) | (refine bool_endDX hx hK ?_; simp_all [In]; omega) | (refine bool_endD hK ?_; simp_all [In] <;> omega) | (refine bool_endDX (Ext.app _ _) hK ?_; simp_all [In] <;> omega) | (refine bool_endDX (Ext.refl _) hK ?_; simp_all [In] <;> omega) | (refine bool_endDX hx hK ?_; simp_all [In] <;> omega))
theorem client_c {n : Int} {σ : AST} {K : AV → AST → Prop} (hK : K (.bool (decide (In 0 7 n))) σ) : TCalls Try.prog 54 [.int .i64 n] σ K := by
  refine tcalls_walk Try.f54 _ [.tmp 2] Try.func54 rfl rfl rfl mixed (Nat.le_of_ble_eq_true rfl) rfl fun hlen => ?_
  repeat' (first | (simp -dsimp only [↓reduceIte, go_sem]) | (refine arr_intro fun _ => ?_) | (refine later_intro ⟨keeps_nil, ?_⟩) | (refine later_intro ⟨keeps_refl, ?_⟩) | (with_reducible refine keeps_go ?_ ?_; focus (first | (simp [keeps_cons, keeps_none, objs_app, objs_app0]; done) | (simp only [keeps_cons, keeps_none, objs_app0, objs_app, and_true]; first | rfl | exact ⟨rfl, rfl⟩ | exact ⟨rfl, rfl, rfl⟩))) | (with_reducible refine (And.intro (a := keeps _ _ _) ?_ ?_); focus (first | (simp [keeps_cons, keeps_none, objs_app, objs_app0]; done) | (simp only [keeps_cons, keeps_none, objs_app0, objs_app, and_true]; first | rfl | exact ⟨rfl, rfl⟩ | exact ⟨rfl, rfl, rfl⟩))) | (refine both_ways ?_ ?_) | (rw [wrap_i64 (by omega) (by omega)]) | (refine guardV_split (fun h => ?_) (fun h => ?_) <;> (try rw [h]) <;> (try simp at h) <;> (try (exfalso; omega))) | (refine within_c ?_))
  all_goals (first | exact hK | (exfalso; omega) | (refine bool_endD hK ?_; simp_all [In] <;> fail) | (refine bool_endDX (Ext.app _ _) hK ?_; simp_all [In] <;> fail) | (refine bool_endDX (Ext.refl _) hK ?_; simp_all [In] <;> fail) | (refine bool_endDX hx hK ?_; simp_all [In] <;> fail) | (refine bool_endD hK ?_; simp [In]; omega) | (refine bool_endDX (Ext.app _ _) hK ?_; simp [In]; omega) | (refine bool_endDX (Ext.refl _) hK ?_; simp [In]; omega) | (refine bool_endDX hx hK ?_; simp [In]; omega) | (refine bool_endD hK ?_; simp_all [In]; omega) | (refine bool_endDX (Ext.app _ _) hK ?_; simp_all [In]; omega) | (refine bool_endDX (Ext.refl _) hK ?_; simp_all [In]; omega) | (refine bool_endDX hx hK ?_; simp_all [In]; omega) | (refine bool_endD hK ?_; simp_all [In] <;> omega) | (refine bool_endDX (Ext.app _ _) hK ?_; simp_all [In] <;> omega) | (refine bool_endDX (Ext.refl _) hK ?_; simp_all [In] <;> omega) | (refine bool_endDX hx hK ?_; simp_all [In] <;> omega))
theorem number_c {n : Int} {σ : AST} {K : AV → AST → Prop} (hK : K (.bool (decide (In 1 512 n))) σ) : TCalls Try.prog 72 [.int .i64 n] σ K := by
  refine tcalls_walk Try.f72 _ [.tmp 2] Try.func72 rfl rfl rfl mixed (Nat.le_of_ble_eq_true rfl) rfl fun hlen => ?_
  repeat' (first | (simp -dsimp only [↓reduceIte, go_sem]) | (refine arr_intro fun _ => ?_) | (refine later_intro ⟨keeps_nil, ?_⟩) | (refine later_intro ⟨keeps_refl, ?_⟩) | (with_reducible refine keeps_go ?_ ?_; focus (first | (simp [keeps_cons, keeps_none, objs_app, objs_app0]; done) | (simp only [keeps_cons, keeps_none, objs_app0, objs_app, and_true]; first | rfl | exact ⟨rfl, rfl⟩ | exact ⟨rfl, rfl, rfl⟩))) | (with_reducible refine (And.intro (a := keeps _ _ _) ?_ ?_); focus (first | (simp [keeps_cons, keeps_none, objs_app, objs_app0]; done) | (simp only [keeps_cons, keeps_none, objs_app0, objs_app, and_true]; first | rfl | exact ⟨rfl, rfl⟩ | exact ⟨rfl, rfl, rfl⟩))) | (refine both_ways ?_ ?_) | (rw [wrap_i64 (by omega) (by omega)]) | (refine guardV_split (fun h => ?_) (fun h => ?_) <;> (try rw [h]) <;> (try simp at h) <;> (try (exfalso; omega))) | (refine within_c ?_))
  all_goals (first | exact hK | (exfalso; omega) | (refine bool_endD hK ?_; simp_all [In] <;> fail) | (refine bool_endDX (Ext.app _ _) hK ?_; simp_all [In] <;> fail) | (refine bool_endDX (Ext.refl _) hK ?_; simp_all [In] <;> fail) | (refine bool_endDX hx hK ?_; simp_all [In] <;> fail) | (refine bool_endD hK ?_; simp [In]; omega) | (refine bool_endDX (Ext.app _ _) hK ?_; simp [In]; omega) | (refine bool_endDX (Ext.refl _) hK ?_; simp [In]; omega) | (refine bool_endDX hx hK ?_; simp [In]; omega) | (refine bool_endD hK ?_; simp_all [In]; omega) | (refine bool_endDX (Ext.app _ _) hK ?_; simp_all [In]; omega) | (refine bool_endDX (Ext.refl _) hK ?_; simp_all [In]; omega) | (refine bool_endDX hx hK ?_; simp_all [In]; omega) | (refine bool_endD hK ?_; simp_all [In] <;> omega) | (refine bool_endDX (Ext.app _ _) hK ?_; simp_all [In] <;> omega) | (refine bool_endDX (Ext.refl _) hK ?_; simp_all [In] <;> omega) | (refine bool_endDX hx hK ?_; simp_all [In] <;> omega))
theorem kind_c {n : Int} {σ : AST} {K : AV → AST → Prop} (hK : K (.bool (decide (In 1 2 n))) σ) : TCalls Try.prog 73 [.int .i64 n] σ K := by
  refine tcalls_walk Try.f73 _ [.tmp 2] Try.func73 rfl rfl rfl mixed (Nat.le_of_ble_eq_true rfl) rfl fun hlen => ?_
  repeat' (first | (simp -dsimp only [↓reduceIte, go_sem]) | (refine arr_intro fun _ => ?_) | (refine later_intro ⟨keeps_nil, ?_⟩) | (refine later_intro ⟨keeps_refl, ?_⟩) | (with_reducible refine keeps_go ?_ ?_; focus (first | (simp [keeps_cons, keeps_none, objs_app, objs_app0]; done) | (simp only [keeps_cons, keeps_none, objs_app0, objs_app, and_true]; first | rfl | exact ⟨rfl, rfl⟩ | exact ⟨rfl, rfl, rfl⟩))) | (with_reducible refine (And.intro (a := keeps _ _ _) ?_ ?_); focus (first | (simp [keeps_cons, keeps_none, objs_app, objs_app0]; done) | (simp only [keeps_cons, keeps_none, objs_app0, objs_app, and_true]; first | rfl | exact ⟨rfl, rfl⟩ | exact ⟨rfl, rfl, rfl⟩))) | (refine both_ways ?_ ?_) | (rw [wrap_i64 (by omega) (by omega)]) | (refine guardV_split (fun h => ?_) (fun h => ?_) <;> (try rw [h]) <;> (try simp at h) <;> (try (exfalso; omega))))
  all_goals (first | exact hK | (exfalso; omega) | (refine bool_endD hK ?_; simp_all [In] <;> fail) | (refine bool_endDX (Ext.app _ _) hK ?_; simp_all [In] <;> fail) | (refine bool_endDX (Ext.refl _) hK ?_; simp_all [In] <;> fail) | (refine bool_endDX hx hK ?_; simp_all [In] <;> fail) | (refine bool_endD hK ?_; simp [In]; omega) | (refine bool_endDX (Ext.app _ _) hK ?_; simp [In]; omega) | (refine bool_endDX (Ext.refl _) hK ?_; simp [In]; omega) | (refine bool_endDX hx hK ?_; simp [In]; omega) | (refine bool_endD hK ?_; simp_all [In]; omega) | (refine bool_endDX (Ext.app _ _) hK ?_; simp_all [In]; omega) | (refine bool_endDX (Ext.refl _) hK ?_; simp_all [In]; omega) | (refine bool_endDX hx hK ?_; simp_all [In]; omega) | (refine bool_endD hK ?_; simp_all [In] <;> omega) | (refine bool_endDX (Ext.app _ _) hK ?_; simp_all [In] <;> omega) | (refine bool_endDX (Ext.refl _) hK ?_; simp_all [In] <;> omega) | (refine bool_endDX hx hK ?_; simp_all [In] <;> omega))
theorem histRight_c {h : List UInt8} {k : Int} {σ : AST} {K : AV → AST → Prop} (hK : K (.bool (decide (ViewOk k h))) σ) : TCalls Try.prog 74 [.str h, .int .i64 k] σ K := by
  refine tcalls_walk Try.f74 _ [.tmp 4] Try.func74 rfl rfl rfl mixed (Nat.le_of_ble_eq_true rfl) rfl fun hlen => ?_
  have hll : h.length ≤ 9223372036854775807 := hlen (.str h) (by simp)
  simp -dsimp only [↓reduceIte, go_sem]
  refine arr_intro fun _ => ?_
  simp -dsimp only [↓reduceIte, go_sem]
  refine awp_rounds (fun (i : Nat) τ s => s = σ ∧ i ≤ h.length ∧ (∀ (j : Nat) b, j < i → h[j]? = some b → (b.toNat : Int) < k) ∧ τ 0 = .str h ∧ τ 1 = .int .i64 k ∧ τ 7 = .int .i64 h.length ∧ τ 8 = .int .i64 i) (fun i => h.length - i) 0 ?_ ?_
  · refine ⟨rfl, by omega, fun j y h => by omega, ?_, ?_, ?_, ?_⟩ <;> (try simp only [go_sem]) <;> rfl
  · rintro i τ s ⟨rfl, hi, hall, t0, t1, t7, t8⟩
    simp -dsimp only [↓reduceIte, go_sem, t0, t1, t7, t8]
    refine boolW_split (fun hb => ?_) (fun hb => ?_)
    · have hb : i < h.length := by simp at hb; omega
      obtain ⟨y, hy, hm⟩ := get_of_lt hb
      have hy8 : (y.toNat : Int) < 256 := by have := y.toNat_lt; omega
      repeat' (first | (simp -dsimp only [↓reduceIte, go_sem, t0, t1, t7, t8]) | (refine arr_intro fun _ => ?_) | (refine later_intro ⟨keeps_nil, ?_⟩) | (refine later_intro ⟨keeps_refl, ?_⟩) | (with_reducible refine keeps_go ?_ ?_; focus (first | (simp [keeps_cons, keeps_none, objs_app, objs_app0]; done) | (simp only [keeps_cons, keeps_none, objs_app0, objs_app, and_true]; first | rfl | exact ⟨rfl, rfl⟩ | exact ⟨rfl, rfl, rfl⟩))) | (with_reducible refine (And.intro (a := keeps _ _ _) ?_ ?_); focus (first | (simp [keeps_cons, keeps_none, objs_app, objs_app0]; done) | (simp only [keeps_cons, keeps_none, objs_app0, objs_app, and_true]; first | rfl | exact ⟨rfl, rfl⟩ | exact ⟨rfl, rfl, rfl⟩))) | (refine both_ways ?_ ?_) | (rw [wrap_i64 (by omega) (by omega)]) | (refine guardV_split (fun h => ?_) (fun h => ?_) <;> (try rw [h]) <;> (try simp at h) <;> (try (exfalso; omega))) | (refine nth_get hy ?_))
      · exact bool_end hK (by
          rw [eq_comm, decide_eq_false_iff_not]
          intro hv; have := hv.1 y hm; omega)
      · refine later_intro ⟨i + 1, by omega, rfl, by omega, ?_, ?_, ?_, ?_, ?_⟩ <;> (try simp only [go_sem, t0, t1, t7, t8]) <;> (try rfl)
        intro j b hj hb'
        by_cases hji : j < i
        · exact hall j b hji hb'
        · obtain rfl : j = i := by omega
          rw [hy] at hb'; cases hb'; omega
    · have hb : i = h.length := by simp at hb; omega
      have ha : ∀ b ∈ h, (b.toNat : Int) < k := fun b hb2 => by
        obtain ⟨j, hj⟩ := List.mem_iff_getElem?.1 hb2
        exact hall j b (by have := (List.getElem?_eq_some_iff.1 hj).1; omega) hj
      repeat' (first | (simp -dsimp only [↓reduceIte, go_sem, t0, t1, t7, t8]) | (refine arr_intro fun _ => ?_) | (refine later_intro ⟨keeps_nil, ?_⟩) | (refine later_intro ⟨keeps_refl, ?_⟩) | (with_reducible refine keeps_go ?_ ?_; focus (first | (simp [keeps_cons, keeps_none, objs_app, objs_app0]; done) | (simp only [keeps_cons, keeps_none, objs_app0, objs_app, and_true]; first | rfl | exact ⟨rfl, rfl⟩ | exact ⟨rfl, rfl, rfl⟩))) | (with_reducible refine (And.intro (a := keeps _ _ _) ?_ ?_); focus (first | (simp [keeps_cons, keeps_none, objs_app, objs_app0]; done) | (simp only [keeps_cons, keeps_none, objs_app0, objs_app, and_true]; first | rfl | exact ⟨rfl, rfl⟩ | exact ⟨rfl, rfl, rfl⟩))) | (refine both_ways ?_ ?_) | (rw [wrap_i64 (by omega) (by omega)]) | (refine guardV_split (fun h => ?_) (fun h => ?_) <;> (try rw [h]) <;> (try simp at h) <;> (try (exfalso; omega))))
      all_goals exact bool_end hK (by rw [Bool.eq_iff_iff]; simp [ViewOk]; first | (intros; omega) | (constructor <;> intros <;> simp_all <;> omega) | (simp_all; omega))
theorem view_c {h : List UInt8} {σ : AST} {K : AV → AST → Prop} (hK : K (.bool (decide (ViewOk 8 h))) σ) : TCalls Try.prog 65 [.str h] σ K := by
  refine tcalls_walk Try.f65 _ [.tmp 2] Try.func65 rfl rfl rfl mixed (Nat.le_of_ble_eq_true rfl) rfl fun hlen => ?_
  repeat' (first | (simp -dsimp only [↓reduceIte, go_sem]) | (refine arr_intro fun _ => ?_) | (refine later_intro ⟨keeps_nil, ?_⟩) | (refine later_intro ⟨keeps_refl, ?_⟩) | (with_reducible refine keeps_go ?_ ?_; focus (first | (simp [keeps_cons, keeps_none, objs_app, objs_app0]; done) | (simp only [keeps_cons, keeps_none, objs_app0, objs_app, and_true]; first | rfl | exact ⟨rfl, rfl⟩ | exact ⟨rfl, rfl, rfl⟩))) | (with_reducible refine (And.intro (a := keeps _ _ _) ?_ ?_); focus (first | (simp [keeps_cons, keeps_none, objs_app, objs_app0]; done) | (simp only [keeps_cons, keeps_none, objs_app0, objs_app, and_true]; first | rfl | exact ⟨rfl, rfl⟩ | exact ⟨rfl, rfl, rfl⟩))) | (refine both_ways ?_ ?_) | (rw [wrap_i64 (by omega) (by omega)]) | (refine guardV_split (fun h => ?_) (fun h => ?_) <;> (try rw [h]) <;> (try simp at h) <;> (try (exfalso; omega))) | (refine histRight_c ?_))
  exact hK
theorem submit_c {x : Sub} {σ : AST} {K : AV → AST → Prop} (hK : K (.bool (decide x.Ok)) σ) : TCalls Try.prog 63 [subV x] σ K := by
  refine TCalls.drop ?_
  refine tcalls_walk Try.f63 _ [.tmp 2] Try.func63 rfl rfl rfl mixed (Nat.le_of_ble_eq_true rfl) rfl fun hlen => ?_
  repeat' (first | (simp -dsimp only [↓reduceIte, go_sem]) | (refine arr_intro fun _ => ?_) | (refine later_intro ⟨keeps_nil, ?_⟩) | (refine later_intro ⟨keeps_refl, ?_⟩) | (with_reducible refine keeps_go ?_ ?_; focus (first | (simp [keeps_cons, keeps_none, objs_app, objs_app0]; done) | (simp only [keeps_cons, keeps_none, objs_app0, objs_app, and_true]; first | rfl | exact ⟨rfl, rfl⟩ | exact ⟨rfl, rfl, rfl⟩))) | (with_reducible refine (And.intro (a := keeps _ _ _) ?_ ?_); focus (first | (simp [keeps_cons, keeps_none, objs_app, objs_app0]; done) | (simp only [keeps_cons, keeps_none, objs_app0, objs_app, and_true]; first | rfl | exact ⟨rfl, rfl⟩ | exact ⟨rfl, rfl, rfl⟩))) | (refine both_ways ?_ ?_) | (rw [wrap_i64 (by omega) (by omega)]) | (refine guardV_split (fun h => ?_) (fun h => ?_) <;> (try rw [h]) <;> (try simp at h) <;> (try (exfalso; omega))) | (refine number_c ?_) | (refine kind_c ?_) | (refine client_c ?_))
  all_goals (first | exact hK | (exfalso; omega) | (refine bool_endD hK ?_; simp_all [Sub.Ok] <;> fail) | (refine bool_endDX (Ext.app _ _) hK ?_; simp_all [Sub.Ok] <;> fail) | (refine bool_endDX (Ext.refl _) hK ?_; simp_all [Sub.Ok] <;> fail) | (refine bool_endDX hx hK ?_; simp_all [Sub.Ok] <;> fail) | (refine bool_endD hK ?_; simp [Sub.Ok]; omega) | (refine bool_endDX (Ext.app _ _) hK ?_; simp [Sub.Ok]; omega) | (refine bool_endDX (Ext.refl _) hK ?_; simp [Sub.Ok]; omega) | (refine bool_endDX hx hK ?_; simp [Sub.Ok]; omega) | (refine bool_endD hK ?_; simp_all [Sub.Ok]; omega) | (refine bool_endDX (Ext.app _ _) hK ?_; simp_all [Sub.Ok]; omega) | (refine bool_endDX (Ext.refl _) hK ?_; simp_all [Sub.Ok]; omega) | (refine bool_endDX hx hK ?_; simp_all [Sub.Ok]; omega) | (refine bool_endD hK ?_; simp_all [Sub.Ok] <;> omega) | (refine bool_endDX (Ext.app _ _) hK ?_; simp_all [Sub.Ok] <;> omega) | (refine bool_endDX (Ext.refl _) hK ?_; simp_all [Sub.Ok] <;> omega) | (refine bool_endDX hx hK ?_; simp_all [Sub.Ok] <;> omega))
theorem blob_c {x : Blob} {σ : AST} {K : AV → AST → Prop} (hK : K (.bool (decide x.Ok)) σ) : TCalls Try.prog 66 [blobV x] σ K := by
  refine TCalls.drop ?_
  refine tcalls_walk Try.f66 _ [.tmp 2] Try.func66 rfl rfl rfl mixed (Nat.le_of_ble_eq_true rfl) rfl fun hlen => ?_
  repeat' (first | (simp -dsimp only [↓reduceIte, go_sem]) | (refine arr_intro fun _ => ?_) | (refine later_intro ⟨keeps_nil, ?_⟩) | (refine later_intro ⟨keeps_refl, ?_⟩) | (with_reducible refine keeps_go ?_ ?_; focus (first | (simp [keeps_cons, keeps_none, objs_app, objs_app0]; done) | (simp only [keeps_cons, keeps_none, objs_app0, objs_app, and_true]; first | rfl | exact ⟨rfl, rfl⟩ | exact ⟨rfl, rfl, rfl⟩))) | (with_reducible refine (And.intro (a := keeps _ _ _) ?_ ?_); focus (first | (simp [keeps_cons, keeps_none, objs_app, objs_app0]; done) | (simp only [keeps_cons, keeps_none, objs_app0, objs_app, and_true]; first | rfl | exact ⟨rfl, rfl⟩ | exact ⟨rfl, rfl, rfl⟩))) | (refine both_ways ?_ ?_) | (rw [wrap_i64 (by omega) (by omega)]) | (refine guardV_split (fun h => ?_) (fun h => ?_) <;> (try rw [h]) <;> (try simp at h) <;> (try (exfalso; omega))) | (refine client_c ?_) | (refine within_c ?_))
  all_goals (first | exact hK | (exfalso; omega) | (refine bool_endD hK ?_; simp_all [Blob.Ok] <;> fail) | (refine bool_endDX (Ext.app _ _) hK ?_; simp_all [Blob.Ok] <;> fail) | (refine bool_endDX (Ext.refl _) hK ?_; simp_all [Blob.Ok] <;> fail) | (refine bool_endDX hx hK ?_; simp_all [Blob.Ok] <;> fail) | (refine bool_endD hK ?_; simp [Blob.Ok]; omega) | (refine bool_endDX (Ext.app _ _) hK ?_; simp [Blob.Ok]; omega) | (refine bool_endDX (Ext.refl _) hK ?_; simp [Blob.Ok]; omega) | (refine bool_endDX hx hK ?_; simp [Blob.Ok]; omega) | (refine bool_endD hK ?_; simp_all [Blob.Ok]; omega) | (refine bool_endDX (Ext.app _ _) hK ?_; simp_all [Blob.Ok]; omega) | (refine bool_endDX (Ext.refl _) hK ?_; simp_all [Blob.Ok]; omega) | (refine bool_endDX hx hK ?_; simp_all [Blob.Ok]; omega) | (refine bool_endD hK ?_; simp_all [Blob.Ok] <;> omega) | (refine bool_endDX (Ext.app _ _) hK ?_; simp_all [Blob.Ok] <;> omega) | (refine bool_endDX (Ext.refl _) hK ?_; simp_all [Blob.Ok] <;> omega) | (refine bool_endDX hx hK ?_; simp_all [Blob.Ok] <;> omega))
end Go.Aff.L10

