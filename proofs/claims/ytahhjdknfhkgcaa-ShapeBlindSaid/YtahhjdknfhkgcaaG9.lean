import Derived.Test.YtahhjdknfhkgcaaG8
import Derived.Test.YtahhjdknfhkgcaaG7

set_option linter.unusedSimpArgs false
set_option linter.unusedVariables false

namespace Go.Aff

variable {P : Program} {σ σ' : AST} {ops : Array Oper} {τ : Env} {KE : Env → AST → Prop}

inductive Tf where
  | nil
  | op (i k : Nat) (r : Tf)
  | fork (e : Nat) (a b : Tf)
def Tf.tr : Tf → Tr
  | .nil => .nil
  | .op i _ r => .op i r.tr
  | .fork e a b => .fork e a.tr b.tr
def Tf.all : Tf → List Nat
  | .nil => []
  | .op i k r => if k = 1 ∨ k = 3 then i :: r.all else r.all
  | .fork _ a b => a.all ++ b.all
def Tf.effs : Tf → List Nat
  | .nil => []
  | .op i k r => if k = 1 then i :: r.all else r.effs
  | .fork _ a b => a.effs ++ b.effs
def seqT (P : Program) (ops : Array Oper) : Tf → List Nat → Env → AST → (Env → AST → Prop) → Prop
  | .nil, ks, τ, σ, K => K τ σ
  | .op i 1 r, ks, τ, σ, K => match gop ops i with
    | none => False
    | some o => stepW P ops o τ σ fun v σ' => keeps ks σ σ' ∧ seqT P ops r ks (τ.putO o.dst v) σ' K
  | .op i 0 r, ks, τ, σ, K => match gop ops i with
    | none => False
    | some o => stepW P ops o τ σ fun v σ' => σ' = σ ∧ seqT P ops r (reads (ev τ) o.op ++ ks) (τ.putO o.dst v) σ' K
  | .op i _ r, ks, τ, σ, K => match gop ops i with
    | none => False
    | some o => stepW P ops o τ σ fun v σ' => σ' = σ ∧ seqT P ops r ks (τ.putO o.dst v) σ' K
  | .fork _ a b, ks, τ, σ, K => seqT P ops a ks τ σ K ∧ seqT P ops b ks τ σ K

def flagsT (P : Program) (ops : Array Oper) : Tf → Bool
  | .nil => true
  | .op i k r => (match ops[i]? with
    | none => false
    | some o => effO P o == (k == 1 || k == 3)) && (k == 0 || k == 1 || k == 3 || r.effs.all fun y => ahead (anc ops) y i) && flagsT P ops r
  | .fork _ a b => flagsT P ops a && flagsT P ops b

def validT (P : Program) (ops : Array Oper) (x : Nat × Env × AV) (σ : AST) : Prop := ∀ o, ops[x.1]? = some o → (∀ t, lenOk (x.2.1 t)) ∧ effO P o = false ∧ stepW P ops o x.2.1 σ fun v' σ'' => v' = x.2.2 ∧ σ'' = σ
def pastT (P : Program) (ops : Array Oper) (ks : List Nat) (past : List (Nat × Env × AV)) (T : Tf) (σ : AST) : Prop :=
  ∀ x ∈ past, (validT P ops x σ ∧ ∀ o, ops[x.1]? = some o → ∀ k ∈ reads (ev x.2.1) o.op, k ∈ ks) ∨ (validT P ops x σ ∧ ∀ y ∈ T.effs, ahead (anc ops) y x.1 = true) ∨ (∀ y ∈ T.all, ahead (anc ops) y x.1 = true)

theorem seqT_pure (i k : Nat) (r : Tf) (ks : List Nat) (past : List (Nat × Env × AV)) (τ : Env) (σ : AST) (k0 : k ≠ 0) (k1 : k ≠ 1) (k3 : k ≠ 3)
    (ih : ∀ (past' : List (Nat × Env × AV)) (τ' : Env), flagsT P ops r = true → pastT P ops ks past' r σ → (∀ t, lenOk (τ' t)) → seqT P ops r ks τ' σ KE → awpT P ops r.tr past' τ' σ KE)
    (hf : flagsT P ops (.op i k r) = true) (hp : pastT P ops ks past (.op i k r) σ) (hlen : ∀ t, lenOk (τ t))
    (h : match gop ops i with
      | none => False
      | some o => stepW P ops o τ σ fun v σ' => σ' = σ ∧ seqT P ops r ks (τ.putO o.dst v) σ' KE) : awpT P ops (Tf.op i k r).tr past τ σ KE := by
  split at h
  · exact h.elim
  · rename_i o hk
    have hk : ops[i]? = some o := hk
    simp only [flagsT, hk, Bool.and_eq_true, beq_iff_eq] at hf
    have b0 : (k == 0) = false := by simpa using k0
    have b1 : (k == 1) = false := by simpa using k1
    have b3 : (k == 3) = false := by simpa using k3
    rw [b0, b1, b3] at hf
    have he : effO P o = false := by simpa using hf.1.1
    have hall : (r.effs.all fun y => ahead (anc ops) y i) = true := by simpa using hf.1.2
    rw [List.all_eq_true] at hall
    simp only [Tf.tr, awpT, hk, he, Bool.false_eq_true, if_false]
    obtain ⟨v, hv, hkk⟩ := stepW_det hlen he h
    refine hkk _ fun hlv => ih _ _ hf.2 ?_ hlv hv.2
    intro x hx
    rcases List.mem_cons.1 hx with rfl | hx
    · right; left
      refine ⟨fun o' ho' => ?_, hall⟩
      dsimp only at ho' ⊢
      rw [hk] at ho'; cases ho'
      exact ⟨hlen, he, hkk _ ⟨rfl, rfl⟩⟩
    · rcases hp x hx with ⟨h0, h1⟩ | ⟨h0, h1⟩ | h0
      · exact .inl ⟨h0, h1⟩
      · exact .inr (.inl ⟨h0, fun y hy => h1 y (by simpa [Tf.effs, k1] using hy)⟩)
      · exact .inr (.inr fun y hy => h0 y (by simpa [Tf.all, k1, k3] using hy))
theorem seqT_awpT : ∀ (T : Tf) (ks : List Nat) (past : List (Nat × Env × AV)) (τ : Env) (σ : AST), flagsT P ops T = true → pastT P ops ks past T σ → (∀ t, lenOk (τ t)) → seqT P ops T ks τ σ KE → awpT P ops T.tr past τ σ KE
  | .nil, ks, past, τ, σ, hf, hp, hlen, h => h
  | .fork e a b, ks, past, τ, σ, hf, hp, hlen, h => by
    simp only [flagsT, Bool.and_eq_true] at hf
    simp only [seqT] at h
    refine ⟨seqT_awpT a ks past τ σ hf.1 (fun x hx => ?_) hlen h.1, seqT_awpT b ks past τ σ hf.2 (fun x hx => ?_) hlen h.2⟩
    · rcases hp x hx with h | ⟨h1, h2⟩ | h
      · exact .inl h
      · exact .inr (.inl ⟨h1, fun y hy => h2 y (by simp [Tf.effs, hy])⟩)
      · exact .inr (.inr fun y hy => h y (by simp [Tf.all, hy]))
    · rcases hp x hx with h | ⟨h1, h2⟩ | h
      · exact .inl h
      · exact .inr (.inl ⟨h1, fun y hy => h2 y (by simp [Tf.effs, hy])⟩)
      · exact .inr (.inr fun y hy => h y (by simp [Tf.all, hy]))
  | .op i 1 r, ks, past, τ, σ, hf, hp, hlen, h => by
    simp only [seqT] at h
    split at h
    · exact h.elim
    · rename_i o hk
      have hk : ops[i]? = some o := hk
      simp only [flagsT, hk, Bool.and_eq_true, beq_iff_eq] at hf
      have he : effO P o = true := by simpa using hf.1.1
      simp only [Tf.tr, awpT, hk, he, if_true]
      refine stepW_mono (fun v σ' hh => ?_) h
      refine ⟨fun x hx hah o ho => ?_, fun hlv => seqT_awpT r ks past _ _ hf.2 ?_ hlv hh.2⟩
      · rcases hp x hx with ⟨h0, h3⟩ | ⟨_, h0⟩ | h0
        · obtain ⟨h1, h2, h4⟩ := h0 o ho
          exact step_same h1 h2 (fun k hk => hh.1 k (h3 o ho k hk)) h4
        · rw [h0 i (by simp [Tf.effs])] at hah; cases hah
        · rw [h0 i (by simp [Tf.all])] at hah; cases hah
      · intro x hx
        rcases hp x hx with ⟨h0, h3⟩ | ⟨_, h0⟩ | h0
        · left
          refine ⟨fun o ho => ?_, h3⟩
          obtain ⟨h1, h2, h4⟩ := h0 o ho
          exact ⟨h1, h2, step_same h1 h2 (fun k hk => hh.1 k (h3 o ho k hk)) h4⟩
        · right; right
          intro y hy; exact h0 y (by simp [Tf.effs, hy])
        · right; right
          intro y hy; exact h0 y (by simp [Tf.all, hy])
  | .op i 3 r, ks, past, τ, σ, hf, hp, hlen, h => by
    simp only [seqT] at h
    split at h
    · exact h.elim
    · rename_i o hk
      have hk : ops[i]? = some o := hk
      simp only [flagsT, hk, Bool.and_eq_true, beq_iff_eq] at hf
      have he : effO P o = true := by simpa using hf.1.1
      simp only [Tf.tr, awpT, hk, he, if_true]
      refine stepW_mono (fun v σ' hh => ?_) h
      obtain ⟨rfl, hh⟩ := hh
      refine ⟨fun x hx hah o ho => ?_, fun hlv => seqT_awpT r ks past _ _ hf.2 ?_ hlv hh⟩
      · rcases hp x hx with ⟨h0, h3⟩ | ⟨h0, _⟩ | h0
        · exact (h0 o ho).2.2
        · exact (h0 o ho).2.2
        · rw [h0 i (by simp [Tf.all])] at hah; cases hah
      · intro x hx
        rcases hp x hx with h0 | ⟨h0, h1⟩ | h0
        · exact .inl h0
        · exact .inr (.inl ⟨h0, fun y hy => h1 y (by simpa [Tf.effs] using hy)⟩)
        · exact .inr (.inr fun y hy => h0 y (by simp [Tf.all, hy]))
  | .op i 0 r, ks, past, τ, σ, hf, hp, hlen, h => by
    simp only [seqT] at h
    split at h
    · exact h.elim
    · rename_i o hk
      have hk : ops[i]? = some o := hk
      simp only [flagsT, hk, Bool.and_eq_true, beq_iff_eq] at hf
      have he : effO P o = false := by simpa using hf.1.1
      simp only [Tf.tr, awpT, hk, he, Bool.false_eq_true, if_false]
      obtain ⟨v, hv, hkk⟩ := stepW_det hlen he h
      refine hkk _ fun hlv => seqT_awpT r _ _ _ _ hf.2 ?_ hlv hv.2
      intro x hx
      rcases List.mem_cons.1 hx with rfl | hx
      · left
        refine ⟨fun o' ho' => ?_, fun o' ho' k hkr => ?_⟩
        · dsimp only at ho' ⊢
          rw [hk] at ho'; cases ho'
          exact ⟨hlen, he, hkk _ ⟨rfl, rfl⟩⟩
        · dsimp only at ho' hkr
          rw [hk] at ho'; cases ho'
          exact List.mem_append_left _ hkr
      · rcases hp x hx with ⟨h0, h1⟩ | ⟨h0, h1⟩ | h0
        · exact .inl ⟨h0, fun o' ho' k hkr => List.mem_append_right _ (h1 o' ho' k hkr)⟩
        · exact .inr (.inl ⟨h0, fun y hy => h1 y (by simpa [Tf.effs] using hy)⟩)
        · exact .inr (.inr fun y hy => h0 y (by simpa [Tf.all] using hy))
  | .op i 2 r, ks, past, τ, σ, hf, hp, hlen, h => seqT_pure i 2 r ks past τ σ (by decide) (by decide) (by decide) (fun past' K' h1 h2 h3 h4 => seqT_awpT r ks past' _ σ h1 h2 h3 h4) hf hp hlen (by simpa only [seqT] using h)
  | .op i (n + 4) r, ks, past, τ, σ, hf, hp, hlen, h => seqT_pure i (n + 4) r ks past τ σ (by omega) (by omega) (by omega) (fun past' K' h1 h2 h3 h4 => seqT_awpT r ks past' _ σ h1 h2 h3 h4) hf hp hlen (by simpa only [seqT] using h)

theorem awp_drawT {id : Nat} {ops : Array Oper} {Q : Exit → Env → AST → Prop} (T : Tf) (ho : (trOk P ops T.tr && flagsT P ops T) = true) (h : seqT P ops T [] τ σ (Q .normal)) : awp P (.region id ops true) Q τ σ := by
  rw [Bool.and_eq_true] at ho
  exact awp_drawTree _ ho.1 fun hlen => seqT_awpT T [] [] τ σ ho.2 (fun x hx => by simp at hx) hlen h

def seqT0 (P : Program) (ops : Array Oper) (o : Option Oper) (r : Tf) (ks : List Nat) (τ : Env) (σ : AST) (K : Env → AST → Prop) : Prop := match o with
  | none => False
  | some o => stepW P ops o τ σ fun v σ' => σ' = σ ∧ seqT P ops r (reads (ev τ) o.op ++ ks) (τ.putO o.dst v) σ' K
def seqT1 (P : Program) (ops : Array Oper) (o : Option Oper) (r : Tf) (ks : List Nat) (τ : Env) (σ : AST) (K : Env → AST → Prop) : Prop := match o with
  | none => False
  | some o => stepW P ops o τ σ fun v σ' => keeps ks σ σ' ∧ seqT P ops r ks (τ.putO o.dst v) σ' K
def seqT2 (P : Program) (ops : Array Oper) (o : Option Oper) (r : Tf) (ks : List Nat) (τ : Env) (σ : AST) (K : Env → AST → Prop) : Prop := match o with
  | none => False
  | some o => stepW P ops o τ σ fun v σ' => σ' = σ ∧ seqT P ops r ks (τ.putO o.dst v) σ' K
variable {ks : List Nat}
theorem seqT_nil : seqT P ops .nil ks τ σ KE = KE τ σ := nr rfl
theorem seqT_1 {i : Nat} {r : Tf} : seqT P ops (.op i 1 r) ks τ σ KE = seqT1 P ops (gop ops i) r ks τ σ KE := by simp only [seqT, seqT1]
theorem seqT_0 {i : Nat} {r : Tf} : seqT P ops (.op i 0 r) ks τ σ KE = seqT0 P ops (gop ops i) r ks τ σ KE := by simp only [seqT, seqT0]
theorem seqT_3 {i : Nat} {r : Tf} : seqT P ops (.op i 3 r) ks τ σ KE = seqT2 P ops (gop ops i) r ks τ σ KE := by simp only [seqT, seqT2]
theorem seqT_2 {i : Nat} {r : Tf} : seqT P ops (.op i 2 r) ks τ σ KE = seqT2 P ops (gop ops i) r ks τ σ KE := by simp only [seqT, seqT2]
structure Both (A B : Prop) : Prop where
  l : A
  r : B
theorem seqT_fork {e : Nat} {a b : Tf} : seqT P ops (.fork e a b) ks τ σ KE = Both (@Later ⟨seqT P ops a ks τ σ KE⟩) (@Later ⟨seqT P ops b ks τ σ KE⟩) := by
  simp only [seqT, Later, eq_iff_iff]
  exact ⟨fun h => ⟨h.1, h.2⟩, fun h => ⟨h.l, h.r⟩⟩
theorem both_ways {A B : Prop} (ha : A) (hb : B) : Both (@Later ⟨A⟩) (@Later ⟨B⟩) := ⟨ha, hb⟩
theorem seqT1_some {o : Oper} {r : Tf} : seqT1 P ops (some o) r ks τ σ KE = stepW P ops o τ σ (@Lam ⟨fun v σ' => @Later ⟨keeps ks σ σ' ∧ seqT P ops r ks (τ.putO o.dst v) σ' KE⟩⟩) := nr rfl
theorem seqT0_some {o : Oper} {r : Tf} : seqT0 P ops (some o) r ks τ σ KE = stepW P ops o τ σ (@Lam ⟨fun v σ' => σ' = σ ∧ @Later ⟨seqT P ops r (reads (ev τ) o.op ++ ks) (τ.putO o.dst v) σ' KE⟩⟩) := nr rfl
theorem seqT2_some {o : Oper} {r : Tf} : seqT2 P ops (some o) r ks τ σ KE = stepW P ops o τ σ (@Lam ⟨fun v σ' => σ' = σ ∧ @Later ⟨seqT P ops r ks (τ.putO o.dst v) σ' KE⟩⟩) := nr rfl
attribute [go_sem ↓] seqT_nil seqT_0 seqT_1 seqT_2 seqT_3 seqT_fork seqT0_some seqT1_some seqT2_some
end Go.Aff

namespace Go.Aff.L10
open Go.Proofs Go.Aff Go.Aff.L01 Classical
set_option maxRecDepth 20000
def dig0 : Dig := ⟨List.replicate 32 0, by simp⟩
structure Sub where
  num : Int
  kind : Int
  target : Int
  value : List UInt8
  asked : Dig
  data : Dig
def sub0 : Sub := ⟨0, 0, 0, [], dig0, dig0⟩
def subPs (x : Sub) : List AV := [.int .i64 x.num, .int .i64 x.kind, .int .i64 x.target, .str x.value, .dig x.asked, .dig x.data]
abbrev subV (x : Sub) : AV := .agg (subPs x)
theorem subPs_0 {x : Sub} : (subPs x)[0]? = some (.int .i64 x.num) := nr rfl
theorem subAt_0 {x : Sub} {v : AV} : partIs Try.prog 67 (subPs x) 0 v = fits Try.prog 3 v := by rw [partIs_of (o := 0) (T := 3) (by kernel_rfl)]; simp [subPs, AV.sizes, AV.size]
theorem subSet_0 {x : Sub} {y : Int} : (subPs x).set 0 (.int .i64 y) = subPs { x with num := y } := nr rfl
theorem subPs_1 {x : Sub} : (subPs x)[1]? = some (.int .i64 x.kind) := nr rfl
theorem subAt_1 {x : Sub} {v : AV} : partIs Try.prog 67 (subPs x) 1 v = fits Try.prog 3 v := by rw [partIs_of (o := 1) (T := 3) (by kernel_rfl)]; simp [subPs, AV.sizes, AV.size]
theorem subSet_1 {x : Sub} {y : Int} : (subPs x).set 1 (.int .i64 y) = subPs { x with kind := y } := nr rfl
theorem subPs_2 {x : Sub} : (subPs x)[2]? = some (.int .i64 x.target) := nr rfl
theorem subAt_2 {x : Sub} {v : AV} : partIs Try.prog 67 (subPs x) 2 v = fits Try.prog 3 v := by rw [partIs_of (o := 2) (T := 3) (by kernel_rfl)]; simp [subPs, AV.sizes, AV.size]
theorem subSet_2 {x : Sub} {y : Int} : (subPs x).set 2 (.int .i64 y) = subPs { x with target := y } := nr rfl
theorem sizes_sub {x : Sub} : AV.sizes (subPs x) = 68 := by simp [subPs, AV.sizes, AV.size]
theorem shapes_sub {x : Sub} : AV.shapes (subPs x) = [.leaf, .leaf, .leaf, .leaf, .dig, .dig] := by simp [subPs, AV.shapes, AV.shape]
theorem fits_sub {v : AV} : fits Try.prog 67 v = (v.isAgg = true ∧ v.size = 68) := fits_agg (by kernel_rfl) (by kernel_rfl)
theorem zero_sub : zeroA Try.prog 12 67 = .agg (subPs sub0) := by kernel_rfl
theorem zt_sub : ZeroOf Try.prog 67 (.agg (subPs sub0)) = True := eq_true ⟨_, _, rfl, rfl, rfl, rfl, rfl⟩
theorem built_sub : Built Try.prog 67 = True := eq_true (by unfold Built; rw [Try.underlying67]; decide +kernel)
structure Pend where
  client : Int
  num : Int
  kind : Int
  target : Int
  asked : Dig
  proof : Dig
def pendPs (x : Pend) : List AV := [.int .i64 x.client, .int .i64 x.num, .int .i64 x.kind, .int .i64 x.target, .dig x.asked, .dig x.proof]
abbrev pendV (x : Pend) : AV := .agg (pendPs x)
structure Rep where
  num : Int
  last : Int
  view : List UInt8
  commit : Dig
  pending : List Pend
  vnum : Int
  value : List UInt8
  data : Dig
  seen : List UInt8
  seenTag : Dig
def rep0 : Rep := ⟨0, 0, [], dig0, [], 0, [], dig0, [], dig0⟩
def repPs (t0 : Tk) (x : Rep) : List AV := [.int .i64 x.num, .int .i64 x.last, .str x.view, .dig x.commit, .slice t0 (x.pending.map pendV), .int .i64 x.vnum, .str x.value, .dig x.data, .str x.seen, .dig x.seenTag]
structure Blob where
  owner : Int
  num : Int
  cipher : List UInt8
  tag : Dig
def blob0 : Blob := ⟨0, 0, [], dig0⟩
def blobPs (x : Blob) : List AV := [.int .i64 x.owner, .int .i64 x.num, .str x.cipher, .dig x.tag]
structure Msg where
  kind : Int
  client : Int
  sub : Sub
  rep : Rep
  view : List UInt8
  by_ : Int
  tag : Dig
  own : Dig
  blob : Blob
  nums : List Int
def msg0 : Msg := ⟨0, 0, sub0, rep0, [], 0, dig0, dig0, blob0, []⟩
def msgPs (t0 t1 : Tk) (x : Msg) : List AV := [.int .i64 x.kind, .int .i64 x.client, .agg (subPs x.sub), .agg (repPs t0 x.rep), .str x.view, .int .i64 x.by_, .dig x.tag, .dig x.own, .agg (blobPs x.blob), .slice t1 (x.nums.map (AV.int .i64))]
structure At where
  n : Int
  e : Int
end Go.Aff.L10

namespace Go.Aff.L21
open Go.Proofs Go.Aff Go.Aff.L01 Classical
set_option maxRecDepth 20000
attribute [local go_sem] push_app app_app length_app cellAt_app cellAt_app0 set_app set_app0 objs_app objs_app0 List.cons_append List.nil_append List.length_cons List.length_nil List.getElem?_cons_zero List.getElem?_cons_succ List.set_cons_zero List.set_cons_succ
attribute [-go_sem] cellAt_new
attribute [local go_sem] Try.underlying9 Try.underlying50
attribute [local go_sem] fits3
attribute [local go_sem ↓] blockQ_exit2
attribute [local go_sem] List.length_map
attribute [-simp] List.length_flatMap

def Goes (σ s : AST) (tk tk' : Tk) : Prop := s.objs = σ.objs ∧ ∀ σ0, Ext σ0 σ → tkNew σ0 tk → Ext σ0 s ∧ tkNew σ0 tk'
theorem Goes.refl {σ : AST} {tk : Tk} : Goes σ σ tk tk := ⟨rfl, fun _ h k => ⟨h, k⟩⟩
theorem Goes.grow {σ s : AST} {tk tk' : Tk} {n : Nat} (h : Goes σ s tk tk') : Goes σ (growS s tk' n 1) tk (growT s tk') := ⟨growS_objs.trans h.1, fun σ0 h0 k0 =>
  have ⟨h1, h2⟩ := h.2 σ0 h0 k0; ⟨h1.grow h2, h2.grow h1⟩⟩
theorem Goes.cell {σ s : AST} {tk tk' : Tk} {l : List AObj} {v : AV} (h : Goes (σ.app l) s tk tk') (hl : l[0]? = some (.cells v)) (p : List Nat) : cellAt s σ.objs.length p = v.at p := by
  simp only [cellAt, h.1]
  rw [objs_app0, hl]; rfl
theorem flatN {α : Type} {f : α → List UInt8} {l : List α} {m i : Nat} (h : ∀ x ∈ l, (f x).length ≤ m) : ((l.take i).flatMap f).length ≤ l.length * m := by
  have := flat_len (f := f) (m := m) (l := l.take i) (fun x hx => h x (List.mem_of_mem_take hx))
  have h2 : (l.take i).length * m ≤ l.length * m := Nat.mul_le_mul_right m (by simp; omega)
  omega
def InI (l : List Int) : Prop := ∀ n ∈ l, -9223372036854775808 ≤ n ∧ n ≤ 9223372036854775807
theorem numsN {l : List Int} (hl : InI l) : ∀ i, ((l.take i).flatMap numS).length ≤ l.length * 22 := fun i => flatN fun n hn => numS_len (hl n hn).1 (hl n hn).2

theorem Goes.gr {σ s σ0 : AST} {tk tk' : Tk} {n m : Nat} (h : Goes σ s tk tk') (hg : Gr σ0 σ tk n) (hc : canApp s tk' m 1) : Gr σ0 s tk' m := ⟨(h.2 σ0 hg.x hg.t).1, (h.2 σ0 hg.x hg.t).2, hc⟩
theorem intsB_c {xs : List UInt8} {l : List Int} {tk t2 : Tk} {σ : AST} {K : AV → AST → Prop} (hl : InI l) (hn : l.length ≤ 1000000) (hx : xs.length ≤ 1000000000) (hcan : canApp σ tk xs.length 1)
    (hK : ∀ s tk', Goes σ s tk tk' → canApp s tk' (xs ++ l.flatMap numS).length 1 → K (.slice tk' (u8s (xs ++ l.flatMap numS))) s) : TCalls Try.prog 100 [.slice tk (u8s xs), .slice t2 (l.map (AV.int .i64))] σ K := by
  have hN := numsN hl
  refine tcalls_walk Try.f100 _ [.tmp 4] Try.func100 rfl rfl rfl mixed (Nat.le_of_ble_eq_true rfl) rfl fun hlen => ?_
  simp -dsimp only [↓reduceIte, go_sem]
  refine arr_intro fun _ => ?_
  simp only [List.length_map]
  simp -dsimp only [↓reduceIte, go_sem]
  refine awp_rounds (fun (i : Nat) τ s => ∃ tk', i ≤ l.length ∧ Goes σ s tk tk' ∧ canApp s tk' (xs ++ (l.take i).flatMap numS).length 1 ∧ τ 0 = .slice tk' (u8s (xs ++ (l.take i).flatMap numS)) ∧ τ 7 = .slice t2 (l.map (AV.int .i64)) ∧ τ 8 = .int .i64 l.length ∧ τ 9 = .int .i64 i) (fun i => l.length - i) 0 ?_ ?_
  · refine ⟨tk, by omega, Goes.refl, by simpa using hcan, ?_, ?_, ?_, ?_⟩ <;> (try simp only [go_sem]) <;> (try rfl) <;> simp
  · rintro i τ s ⟨tk', hi, hg, hc, t0, t7, t8, t9⟩
    simp -dsimp only [↓reduceIte, go_sem, t0, t7, t8, t9]
    refine boolW_split (fun hb => ?_) (fun hb => ?_)
    · have hb : i < l.length := by simp at hb; omega
      obtain ⟨y, hy⟩ := get_lt hb
      have hyl := hl y (List.mem_of_getElem? hy)
      have h22 := numS_len hyl.1 hyl.2
      have hNi := hN i
      repeat' (first | (simp -dsimp only [↓reduceIte, go_sem, t0, t7, t8, t9]) | (refine arr_intro fun _ => ?_) | (refine later_intro ⟨keeps_nil, ?_⟩) | (refine later_intro ⟨keeps_refl, ?_⟩) | (with_reducible refine keeps_go ?_ ?_; focus (first | (simp [keeps_cons, keeps_none, objs_app, objs_app0]; done) | (simp only [keeps_cons, keeps_none, objs_app0, objs_app, and_true]; first | rfl | exact ⟨rfl, rfl⟩ | exact ⟨rfl, rfl, rfl⟩))) | (with_reducible refine (And.intro (a := keeps _ _ _) ?_ ?_); focus (first | (simp [keeps_cons, keeps_none, objs_app, objs_app0]; done) | (simp only [keeps_cons, keeps_none, objs_app0, objs_app, and_true]; first | rfl | exact ⟨rfl, rfl⟩ | exact ⟨rfl, rfl, rfl⟩))) | (refine both_ways ?_ ?_) | (rw [wrap_i64 (by omega) (by omega)]) | (refine guardV_split (fun h => ?_) (fun h => ?_) <;> (try rw [h]) <;> (try simp at h) <;> (try (exfalso; omega))) | (refine nth_get hy ?_) | (refine number_c hyl.1 hyl.2 ?_) | (refine append_text E51 Try.underlying9 hc (by simp only [List.length_append]; omega) (by simp only [maxL, List.length_append]; omega) ?_))
      have e : (l.take (i + 1)).flatMap numS = (l.take i).flatMap numS ++ numS y := flat_take hy
      refine later_intro ⟨i + 1, by omega, growT s tk', by omega, hg.grow, ?_, ?_, ?_, ?_, ?_⟩ <;> (try simp only [go_sem, t0, t7, t8, t9]) <;> (try rfl)
      · rw [e, ← List.append_assoc]; simp only [List.length_append]; exact canApp_grow hc
      · rw [e, List.append_assoc]
    · have hb : i = l.length := by simp at hb; omega
      rw [hb, List.take_length] at t0 hc
      repeat' (first | (simp -dsimp only [↓reduceIte, go_sem, t0, t7, t8, t9]) | (refine arr_intro fun _ => ?_) | (refine later_intro ⟨keeps_nil, ?_⟩) | (refine later_intro ⟨keeps_refl, ?_⟩) | (with_reducible refine keeps_go ?_ ?_; focus (first | (simp [keeps_cons, keeps_none, objs_app, objs_app0]; done) | (simp only [keeps_cons, keeps_none, objs_app0, objs_app, and_true]; first | rfl | exact ⟨rfl, rfl⟩ | exact ⟨rfl, rfl, rfl⟩))) | (with_reducible refine (And.intro (a := keeps _ _ _) ?_ ?_); focus (first | (simp [keeps_cons, keeps_none, objs_app, objs_app0]; done) | (simp only [keeps_cons, keeps_none, objs_app0, objs_app, and_true]; first | rfl | exact ⟨rfl, rfl⟩ | exact ⟨rfl, rfl, rfl⟩))) | (refine both_ways ?_ ?_) | (rw [wrap_i64 (by omega) (by omega)]) | (refine guardV_split (fun h => ?_) (fun h => ?_) <;> (try rw [h]) <;> (try simp at h) <;> (try (exfalso; omega))))
      exact hK _ _ hg hc

end Go.Aff.L21

namespace Go.Aff.L21
open Go.Proofs Go.Aff Go.Aff.L01 Classical
set_option maxRecDepth 20000
attribute [local go_sem] push_app app_app length_app cellAt_app cellAt_app0 set_app set_app0 objs_app objs_app0 List.cons_append List.nil_append List.length_cons List.length_nil List.getElem?_cons_zero List.getElem?_cons_succ List.set_cons_zero List.set_cons_succ
attribute [-go_sem] cellAt_new
attribute [local go_sem] Try.underlying5 Try.underlying9 Try.underlying22 fits29 Try.underlying123 fits44 fits46 p46_0 p46_1 p46_2 p46_3 p46_4 p46_5 Try.underlying84
attribute [local go_sem] fits3
attribute [local go_sem ↓] blockQ_exit2
attribute [local go_sem] List.length_map
attribute [-simp] List.length_flatMap
attribute [local go_sem] zt46 zero46 agg_leaf known_leaf

def numsB (l : List Int) : List UInt8 := if 512 < l.length then [] else laidAll numS l
def numsE (l : List Int) : Int := if 512 < l.length then 4 else 0
theorem numbersB_c {l : List Int} (hl : InI l) {tk0 : Tk} {σ : AST} {K : AV → AST → Prop} (hK : K (.tuple [.str (numsB l), .int .i64 (numsE l)]) σ) : TCalls Try.prog 101 [.slice tk0 (l.map (AV.int .i64))] σ K := by
  refine numbers_c hl ?_
  unfold numsB numsE at hK
  split <;> rename_i h <;> simpa [h] using hK
noncomputable def textsB (l : List (List UInt8)) : List UInt8 := if 512 < l.length ∨ ∃ s ∈ l, 16384 < s.length then [] else laidAll textS l
noncomputable def textsE (l : List (List UInt8)) : Int := if 512 < l.length ∨ ∃ s ∈ l, 16384 < s.length then 4 else 0
theorem textsB_c {l : List (List UInt8)} {tk0 : Tk} {σ : AST} {K : AV → AST → Prop} (hK : K (.tuple [.str (textsB l), .int .i64 (textsE l)]) σ) : TCalls Try.prog 102 [.slice tk0 (l.map AV.str)] σ K := by
  refine texts_c ?_
  unfold textsB textsE at hK
  unfold textsR
  split
  · rename_i h; rw [if_pos h, if_pos h] at hK; exact hK
  · rename_i h; rw [if_neg h, if_neg h] at hK; exact hK

noncomputable def leafG (x : Leaf) : List UInt8 := [x.num, x.kind, x.size].flatMap numS ++ numsB x.blocks ++ textsB x.names ++ numsB x.nodes
def leafS (x : Leaf) : List UInt8 := [x.num, x.kind, x.size].flatMap numS ++ laidAll numS x.blocks ++ laidAll textS x.names ++ laidAll numS x.nodes
theorem numsB_len {l : List Int} (hl : InI l) : (numsB l).length ≤ 11300 := by
  unfold numsB
  split
  · simp
  · rename_i h
    have := numsN hl l.length
    rw [List.take_length] at this
    simp only [laidAll, part_all, List.length_append, List.length_cons, List.length_nil]; omega
theorem textsB_len {l : List (List UInt8)} (h : ∀ s ∈ l, s.length ≤ 12) : (textsB l).length ≤ 17000 := by
  unfold textsB
  split
  · simp
  · rename_i h2
    have h3 : ¬ 512 < l.length := fun h => h2 (.inl h)
    have := flat_len (f := textS) (m := 33) (l := l) fun s hs => by
      have := h s hs; have h2 := dg_len20 (n := s.length) (by omega); simp only [textS, List.length_append, List.length_cons, List.length_nil]; omega
    simp only [laidAll, part_all, List.length_append, List.length_cons, List.length_nil]; omega
theorem Leaf.Right.ints {x : Leaf} (h : x.Right) : InI x.blocks ∧ InI x.nodes ∧ InI [x.num, x.kind, x.size] ∧ ∀ s ∈ x.names, s.length ≤ 12 := by
  obtain ⟨h1, h2, h3⟩ := h
  rcases h3 with ⟨hk, hb, h0, h5, hl, hn, hd⟩ | ⟨hk, hn, hd, h0, hb, hl⟩
  · refine ⟨fun n hn => by have := hb n hn; omega, by rw [hd]; intro n hn; simp at hn, ?_, by rw [hn]; intro n hn; simp at hn⟩
    intro n hn; simp at hn; omega
  · refine ⟨by rw [hb]; intro n hn; simp at hn, fun n hn => by have := hd n hn; omega, ?_, ?_⟩
    · intro n hn; simp at hn; omega
    · intro s hs
      obtain ⟨i, hi⟩ := List.mem_iff_getElem?.1 hs
      have := (hn i s hi).1
      simp only [nameB, decide_eq_true_eq] at this
      exact this.2.1
theorem leafG_len {x : Leaf} (h : x.Right) : (leafG x).length ≤ 40000 := by
  obtain ⟨h1, h2, h3, h4⟩ := h.ints
  have := numsN h3 3
  have h5 := numsB_len h1
  have h6 := numsB_len h2
  have h7 := textsB_len h4
  simp only [List.take_succ_cons, List.take_zero, List.length_cons, List.length_nil] at this
  simp only [leafG, List.length_append]; omega
theorem table_len {l : List Leaf} (h : Table l) : l.length ≤ 32 := by
  have key : ∀ (i : Nat) x, l[i]? = some x → (i : Int) + 1 ≤ x.num := by
    intro i
    induction i with
    | zero => intro x hx; have := (h 0 x hx).1.1; omega
    | succ i ih =>
      intro x hx
      obtain ⟨z, hz⟩ := get_lt (l := l) (i := i) (by have := (List.getElem?_eq_some_iff.1 hx).1; omega)
      have h1 := (h (i + 1) x hx).2 z (by omega) (by simpa using hz)
      have := ih z hz; omega
  by_cases h0 : l.length = 0
  · omega
  · obtain ⟨z, hz⟩ := get_lt (l := l) (i := l.length - 1) (by omega)
    have := key _ z hz; have := (h _ z hz).1.2.1; omega
noncomputable def putG (l : List Leaf) : List UInt8 × Int := if Table l then (if 4096 < (l.flatMap leafG).length then ([], 4) else (l.flatMap leafG, 0)) else ([], 2)

theorem put_c {l : List TLeaf} {tk : Tk} {σ : AST} {K : AV → AST → Prop} (hK : K (.tuple [.str (putG (l.map (·.x))).1, .int .i64 (putG (l.map (·.x))).2]) σ) : TCalls Try.prog 74 [.slice tk (l.map leafV)] σ K := by
  refine TCalls.drop ?_
  refine tcalls_walk Try.f74 _ [.tmp 2, .tmp 3] Try.func74 rfl rfl rfl mixed (Nat.le_of_ble_eq_true rfl) rfl fun hlen => ?_
  repeat' (first | (simp -dsimp only [↓reduceIte, go_sem]) | (refine arr_intro fun _ => ?_) | (refine later_intro ⟨keeps_nil, ?_⟩) | (refine later_intro ⟨keeps_refl, ?_⟩) | (with_reducible refine keeps_go ?_ ?_; focus (first | (simp [keeps_cons, keeps_none, objs_app, objs_app0]; done) | (simp only [keeps_cons, keeps_none, objs_app0, objs_app, and_true]; first | rfl | exact ⟨rfl, rfl⟩ | exact ⟨rfl, rfl, rfl⟩))) | (with_reducible refine (And.intro (a := keeps _ _ _) ?_ ?_); focus (first | (simp [keeps_cons, keeps_none, objs_app, objs_app0]; done) | (simp only [keeps_cons, keeps_none, objs_app0, objs_app, and_true]; first | rfl | exact ⟨rfl, rfl⟩ | exact ⟨rfl, rfl, rfl⟩))) | (refine both_ways ?_ ?_) | (rw [wrap_i64 (by omega) (by omega)]) | (refine guardV_split (fun h => ?_) (fun h => ?_) <;> (try rw [h]) <;> (try simp at h) <;> (try (exfalso; omega))) | (refine table_c ?_))
  · rw [putG, if_neg ‹_›] at hK; exact ⟨Ext.refl _, rfl, hK⟩
  · have hT : Table (l.map (·.x)) := ‹_›
    rw [putG, if_pos hT] at hK
    have h32 := table_len hT
    have hR : ∀ y ∈ l, y.x.Right := fun y hy => by
      obtain ⟨i, hi⟩ := List.mem_iff_getElem?.1 hy
      exact (hT i y.x (tableAt hi)).1
    have hN : ∀ i, ((l.take i).flatMap fun y => leafG y.x).length ≤ l.length * 40000 := fun i => flatN fun y hy => leafG_len (hR y hy)
    rw [List.length_map] at h32
    refine awp_rounds (fun (i : Nat) τ s => ∃ tk' n, i ≤ l.length ∧ Gr σ s tk' n ∧ n = ((l.take i).flatMap fun y => leafG y.x).length ∧ τ 4 = .slice tk' (u8s ((l.take i).flatMap fun y => leafG y.x)) ∧ τ 16 = .slice tk (l.map leafV) ∧ τ 17 = .int .i64 l.length ∧ τ 18 = .int .i64 i) (fun i => l.length - i) 0 ?_ ?_
    · refine ⟨.full, 0, by omega, Gr.start, rfl, ?_, ?_, ?_, ?_⟩ <;> (try simp only [go_sem]) <;> rfl
    · rintro i τ s ⟨tk', n, hi, hgr, rfl, t4, t16, t17, t18⟩
      simp -dsimp only [↓reduceIte, go_sem, t4, t16, t17, t18]
      refine boolW_split (fun hb => ?_) (fun hb => ?_)
      · have hb : i < l.length := by simp at hb; omega
        obtain ⟨y, hy⟩ := get_lt hb
        have hyR := hR y (List.mem_of_getElem? hy)
        obtain ⟨hi1, hi2, hi3, hi4⟩ := hyR.ints
        have hNi := hN i
        have hG := leafG_len hyR
        have e : (l.take (i + 1)).flatMap (fun y => leafG y.x) = (l.take i).flatMap (fun y => leafG y.x) ++ leafG y.x := flat_take hy
        repeat' (first | (simp -dsimp only [↓reduceIte, go_sem, t4, t16, t17, t18, leafV]) | (refine arr_intro fun _ => ?_) | (refine later_intro ⟨keeps_nil, ?_⟩) | (refine later_intro ⟨keeps_refl, ?_⟩) | (with_reducible refine keeps_go ?_ ?_; focus (first | (simp [keeps_cons, keeps_none, objs_app, objs_app0]; done) | (simp only [keeps_cons, keeps_none, objs_app0, objs_app, and_true]; first | rfl | exact ⟨rfl, rfl⟩ | exact ⟨rfl, rfl, rfl⟩))) | (with_reducible refine (And.intro (a := keeps _ _ _) ?_ ?_); focus (first | (simp [keeps_cons, keeps_none, objs_app, objs_app0]; done) | (simp only [keeps_cons, keeps_none, objs_app0, objs_app, and_true]; first | rfl | exact ⟨rfl, rfl⟩ | exact ⟨rfl, rfl, rfl⟩))) | (refine both_ways ?_ ?_) | (rw [wrap_i64 (by omega) (by omega)]) | (refine guardV_split (fun h => ?_) (fun h => ?_) <;> (try rw [h]) <;> (try simp at h) <;> (try (exfalso; omega))) | (refine nth_get hy ?_) | (refine build_slice E44 rfl (by decide) (by intro v hv; simp at hv; rcases hv with rfl | rfl | rfl <;> exact ⟨by simp only [go_sem], rfl⟩) ?_))
        refine intsB_c (l := [y.x.num, y.x.kind, y.x.size]) hi3 (by simp) (by omega) (by rw [canApp_app]; exact hgr.c) fun s2 tk2 hg hc2 => ?_
        have hcell := hg.cell rfl
        have hgr2 := hg.gr hgr.app hc2
        have l1 := numsB_len hi1
        have l2 := numsB_len hi2
        have l3 := textsB_len hi4
        have l0 := numsN hi3 3
        simp only [List.take_succ_cons, List.take_zero, List.length_cons, List.length_nil] at l0
        repeat' (first | (simp -dsimp only [↓reduceIte, go_sem, t4, t16, t17, t18, hcell]) | (refine arr_intro fun _ => ?_) | (refine later_intro ⟨keeps_nil, ?_⟩) | (refine later_intro ⟨keeps_refl, ?_⟩) | (with_reducible refine keeps_go ?_ ?_; focus (first | (simp [keeps_cons, keeps_none, objs_app, objs_app0]; done) | (simp only [keeps_cons, keeps_none, objs_app0, objs_app, and_true]; first | rfl | exact ⟨rfl, rfl⟩ | exact ⟨rfl, rfl, rfl⟩))) | (with_reducible refine (And.intro (a := keeps _ _ _) ?_ ?_); focus (first | (simp [keeps_cons, keeps_none, objs_app, objs_app0]; done) | (simp only [keeps_cons, keeps_none, objs_app0, objs_app, and_true]; first | rfl | exact ⟨rfl, rfl⟩ | exact ⟨rfl, rfl, rfl⟩))) | (refine both_ways ?_ ?_) | (rw [wrap_i64 (by omega) (by omega)]) | (refine guardV_split (fun h => ?_) (fun h => ?_) <;> (try rw [h]) <;> (try simp at h) <;> (try (exfalso; omega))) | (refine numbersB_c hi1 ?_) | (refine textsB_c ?_) | (refine numbersB_c hi2 ?_) | (refine append_text E51 Try.underlying9 hc2 (by simp only [List.length_append]; omega) (by simp only [maxL, List.length_append]; omega) ?_) | (refine append_text E51 Try.underlying9 (by simp only [List.length_append]; exact canApp_grow hc2) (by simp only [List.length_append]; omega) (by simp only [maxL, List.length_append]; omega) ?_) | (refine append_text E51 Try.underlying9 (by simp only [List.length_append]; exact canApp_grow (canApp_grow hc2)) (by simp only [List.length_append]; omega) (by simp only [maxL, List.length_append]; omega) ?_))
        refine later_intro ⟨i + 1, by omega, _, _, by omega, hgr2.grow.grow.grow, ?_, ?_, ?_, ?_, ?_⟩ <;> (try simp only [go_sem, t4, t16, t17, t18]) <;> (try rfl)
        · rw [e]; simp only [leafG, List.length_append]; omega
        · rw [e]; simp only [leafG, List.append_assoc]
      · have hb : i = l.length := by simp at hb; omega
        have h4 := hN i
        rw [hb, List.take_length] at t4 h4
        have em : (l.map (·.x)).flatMap leafG = l.flatMap fun y => leafG y.x := by simp [List.flatMap_map]
        rw [em] at hK
        repeat' (first | (simp -dsimp only [↓reduceIte, go_sem, t4, t16, t17, t18, u8s_length]) | (refine arr_intro fun _ => ?_) | (refine later_intro ⟨keeps_nil, ?_⟩) | (refine later_intro ⟨keeps_refl, ?_⟩) | (with_reducible refine keeps_go ?_ ?_; focus (first | (simp [keeps_cons, keeps_none, objs_app, objs_app0]; done) | (simp only [keeps_cons, keeps_none, objs_app0, objs_app, and_true]; first | rfl | exact ⟨rfl, rfl⟩ | exact ⟨rfl, rfl, rfl⟩))) | (with_reducible refine (And.intro (a := keeps _ _ _) ?_ ?_); focus (first | (simp [keeps_cons, keeps_none, objs_app, objs_app0]; done) | (simp only [keeps_cons, keeps_none, objs_app0, objs_app, and_true]; first | rfl | exact ⟨rfl, rfl⟩ | exact ⟨rfl, rfl, rfl⟩))) | (refine both_ways ?_ ?_) | (rw [wrap_i64 (by omega) (by omega)]) | (refine guardV_split (fun h => ?_) (fun h => ?_) <;> (try rw [h]) <;> (try simp at h) <;> (try (exfalso; omega))))
        · skip
          rw [if_pos (by omega)] at hK; exact ⟨hgr.x, rfl, hK⟩
        · rw [if_neg (by omega)] at hK; exact ⟨hgr.x, rfl, hK⟩
end Go.Aff.L21

namespace Go.Aff.L21
open Go.Proofs Go.Aff Go.Aff.L01 Classical
set_option maxRecDepth 20000
attribute [local go_sem] push_app app_app length_app cellAt_app cellAt_app0 set_app set_app0 objs_app objs_app0 List.cons_append List.nil_append List.length_cons List.length_nil List.getElem?_cons_zero List.getElem?_cons_succ List.set_cons_zero List.set_cons_succ
attribute [-go_sem] cellAt_new
attribute [local go_sem ↓] blockQ_exit2
attribute [local go_sem] List.length_map
attribute [-simp] List.length_flatMap
attribute [local go_sem] agg_leaf known_leaf

end Go.Aff.L21

namespace Go.Aff

variable {P : Program} {σ σ' : AST} {K : AV → AST → Prop} {KV : AV → Prop}

section
variable {dst : Option Nat} {ty : TypeId} {pos : String} {after : Array Edge} {gd : Option (Nat × Bool)} {ρ : Operand → AV}
theorem op_copy {x y : Operand} {ts : Array TypeId} : opW P ρ ⟨dst, .call ⟨.builtin .copy, #[x, y], ts⟩, ty, pos, after, gd⟩ σ K = copyW P ts (ρ x) (ρ y) σ K := nr rfl
end
def convA (o : Option AV) (K : AV → Prop) : Prop := match o with
  | some (.dig d) => K (.str d.l)
  | some (.agg ps) => ∃ l, unU8 (ps.take 32) = some l ∧ 32 ≤ ps.length ∧ K (.str l)
  | _ => False
theorem convA_dig {d : Dig} : convA (some (.dig d)) KV = KV (.str d.l) := nr rfl
attribute [go_sem ↓] op_copy
attribute [go_sem] convA_dig
theorem get_pred {α : Type} {l : List α} {i : Nat} {y : α} (h : l[i]? = some y) (h0 : 0 < i) : l[i - 1]? = some (l[i - 1]'(by have := (List.getElem?_eq_some_iff.1 h).1; omega)) := List.getElem?_eq_getElem _
theorem nth_pred {α : Type} {l : List α} {i : Nat} {y : α} {F : α → Prop} (h : l[i]? = some y) (h0 : 0 < i) (hF : F (l[i - 1]'(by have := (List.getElem?_eq_some_iff.1 h).1; omega))) : nthW l ((i : Int) - 1) (@LamA _ ⟨F⟩) := by
  rw [show (i : Int) - 1 = ((i - 1 : Nat) : Int) by omega]; exact nth_get (get_pred h h0) hF
theorem keeps_cons {k : Nat} {ks : List Nat} : keeps (k :: ks) σ σ' = (σ'.objs[k]? = σ.objs[k]? ∧ keeps ks σ σ') := by simp [keeps]
theorem keeps_go {ks : List Nat} {R : Prop} (h : keeps ks σ σ') (hR : R) : @Later ⟨keeps ks σ σ' ∧ R⟩ := ⟨h, hR⟩
theorem reads_pick {ρ : Operand → AV} {a b c : Operand} : reads ρ (.pick a b c) = [] := rfl
theorem reads_makeFunc {ρ : Operand → AV} {f : Fn} {a b : Array Operand} : reads ρ (.makeFunc f a b) = [] := rfl
theorem reads_makeInterface {ρ : Operand → AV} {t : TypeId} {x : Operand} : reads ρ (.makeInterface t x) = [] := rfl
attribute [go_sem] reads_pick reads_makeFunc reads_makeInterface
end Go.Aff

namespace Go.Aff.L10
open Go.Proofs Go.Aff Go.Aff.L01 Classical
set_option maxRecDepth 20000
theorem dig_ext {a b : Dig} : a.l = b.l ↔ a = b := by
  cases a; cases b; simp
theorem eq_int3 {n : Nat} {a b : Int} : eqA Try.prog (n + 1) 3 (.int .i64 a) (.int .i64 b) = some (a == b) := by
  simp [eqA, Try.underlying3]
theorem eqAs_cons {n i : Nat} {t : TypeId} {f : Field} {fs : List Field} {x y : AV} {xs ys ax ay : List AV} (h : (f.name ≠ "_" ∧ f.offset = AV.sizes (ax.take i) ∧ f.offset = AV.sizes (ay.take i) ∧ aggT Try.prog f.type = some x.isAgg ∧ Try.prog.cellsOf f.type = x.size ∧ aggT Try.prog f.type = some y.isAgg ∧ Try.prog.cellsOf f.type = y.size)) {b : Bool} (hb : eqA Try.prog n f.type x y = some b) :
    eqAs Try.prog (n + 1) t i (f :: fs) (x :: xs) (y :: ys) ax ay = if b = true then eqAs Try.prog n t (i + 1) fs xs ys ax ay else some false := by
  simp only [eqAs]
  rw [if_pos h, hb]
  cases b <;> rfl
theorem fits5 {v : AV} : fits Try.prog 5 v = (v.isAgg = false ∧ v.size = 1) := fits_leaf (by kernel_rfl) (by kernel_rfl)
theorem fits31 {v : AV} : fits Try.prog 50 v = (v.isAgg = false ∧ v.size = 1) := fits_leaf (by kernel_rfl) (by kernel_rfl)
theorem zero3 : zeroA Try.prog 12 3 = .int .i64 0 := by kernel_rfl
theorem zt3 : ZeroOf Try.prog 3 (.int .i64 0) = True := eq_true ⟨_, _, rfl, rfl, rfl, rfl, rfl⟩
end Go.Aff.L10

namespace Go.Aff.L10
open Go.Proofs Go.Aff Go.Aff.L01 Classical

def In (lo hi n : Int) : Prop := lo ≤ n ∧ n ≤ hi
def ViewOk (k : Int) (h : List UInt8) : Prop := (∀ b ∈ h, (b.toNat : Int) < k) ∧ h.length ≤ 512 ∧ 1 ≤ k ∧ k ≤ 256
def Sub.Ok (x : Sub) : Prop := In 1 512 x.num ∧ In 1 2 x.kind ∧ In 0 7 x.target ∧ x.value.length ≤ 256
def Pend.Ok (p : Pend) : Prop := In 0 7 p.client ∧ In 0 7 p.target ∧ In 1 512 p.num ∧ In 1 2 p.kind
def Rep.Ok (x : Rep) : Prop := (∀ p ∈ x.pending, p.Ok) ∧ In 1 512 x.num ∧ In (-1) 7 x.last ∧ (x.view = [] ↔ x.last = -1) ∧ x.pending.length ≤ 8 ∧ ViewOk 8 x.view ∧ ViewOk 8 x.seen ∧ In 0 512 x.vnum ∧ x.value.length ≤ 256
def Blob.Ok (b : Blob) : Prop := In 0 7 b.owner ∧ In 0 1099511627776 b.num ∧ b.cipher.length ≤ 4096
def NumsOk (l : List Int) : Prop := (∀ (i : Nat) n, l[i]? = some n → In 0 1099511627776 n ∧ ∀ m, 0 < i → l[i - 1]? = some m → m < n) ∧ In 1 64 l.length
def Msg.own_ (m : Msg) : Msg :=
  if m.kind = 1 then { msg0 with kind := m.kind, client := m.client, sub := m.sub }
  else if m.kind = 2 then { msg0 with kind := m.kind, client := 0, rep := m.rep }
  else if m.kind = 3 then { msg0 with kind := m.kind, client := m.client, view := m.view, tag := m.tag }
  else if m.kind = 4 ∨ m.kind = 6 then { msg0 with kind := m.kind, client := 0, blob := m.blob }
  else if m.kind = 5 ∨ m.kind = 7 ∨ m.kind = 8 then { msg0 with kind := m.kind, client := m.client, nums := m.nums }
  else if m.kind = 10 then { msg0 with kind := m.kind, client := m.client, by_ := m.by_, view := m.view, tag := m.tag, own := m.own }
  else if m.kind = 11 then { msg0 with kind := m.kind, client := m.client, own := m.own }
  else { msg0 with kind := m.kind, client := m.client }
def Msg.FieldsOk (m : Msg) : Prop :=
  if m.kind = 1 then m.sub.Ok
  else if m.kind = 2 then m.rep.Ok
  else if m.kind = 3 then m.view ≠ [] ∧ ViewOk 8 m.view
  else if m.kind = 4 ∨ m.kind = 6 then m.blob.Ok
  else if m.kind = 5 ∨ m.kind = 7 ∨ m.kind = 8 then NumsOk m.nums
  else if m.kind = 10 then In 0 7 m.by_ ∧ m.view ≠ [] ∧ ViewOk 8 m.view
  else m.kind = 9 ∨ m.kind = 11
def Msg.Ok (m : Msg) : Prop := m.FieldsOk ∧ In 0 7 m.client ∧ m.own_ = m
end Go.Aff.L10

namespace Go.Aff.L10
open Go.Proofs Go.Aff Go.Aff.L01 Classical
set_option maxRecDepth 20000
attribute [local go_sem] push_app app_app length_app cellAt_app cellAt_app0 set_app set_app0 objs_app objs_app0 List.cons_append List.nil_append List.length_cons List.length_nil List.getElem?_cons_zero List.getElem?_cons_succ List.set_cons_zero List.set_cons_succ List.length_map
attribute [-go_sem] cellAt_new
attribute [-simp] List.length_flatMap
attribute [local go_sem ↓] blockQ_exit2
attribute [local go_sem] bin_bool_ne

theorem flatN {α : Type} {f : α → List UInt8} {l : List α} {m i : Nat} (h : ∀ x ∈ l, (f x).length ≤ m) : ((l.take i).flatMap f).length ≤ l.length * m := by
  have := flat_len (f := f) (m := m) (l := l.take i) (fun x hx => h x (List.mem_of_mem_take hx))
  have h2 : (l.take i).length * m ≤ l.length * m := Nat.mul_le_mul_right m (by simp; omega)
  omega
def InI (l : List Int) : Prop := ∀ n ∈ l, -9223372036854775808 ≤ n ∧ n ≤ 9223372036854775807
theorem numsN {l : List Int} (hl : InI l) : ∀ i, ((l.take i).flatMap numS).length ≤ l.length * 22 := fun i => flatN fun n hn => numS_len (hl n hn).1 (hl n hn).2

section
variable {KV : AV → Prop}
end
abbrev digS (d : Dig) : List UInt8 := textS d.l
def pendB (p : Pend) : List UInt8 := [p.client, p.num, p.kind, p.target].flatMap numS ++ [p.asked, p.proof].flatMap digS
def ansB (x : Rep) : List UInt8 := [x.num, x.last].flatMap numS ++ textS x.view ++ [x.commit].flatMap digS ++ [(x.pending.length : Int)].flatMap numS ++ x.pending.flatMap pendB ++ [x.vnum].flatMap numS ++ textS x.value ++ [x.data].flatMap digS ++ textS x.seen ++ [x.seenTag].flatMap digS
def subB (x : Sub) : List UInt8 := [x.num, x.kind, x.target].flatMap numS ++ textS x.value ++ [x.asked, x.data].flatMap digS
def blobB (x : Blob) : List UInt8 := [x.owner, x.num].flatMap numS ++ textS x.cipher ++ [x.tag].flatMap digS
def Msg.rest (m : Msg) : List UInt8 :=
  if m.kind = 1 then subB m.sub
  else if m.kind = 2 then ansB m.rep
  else if m.kind = 3 then textS m.view ++ [m.tag].flatMap digS
  else if m.kind = 4 ∨ m.kind = 6 then blobB m.blob
  else if m.kind = 5 ∨ m.kind = 7 ∨ m.kind = 8 then laidAll numS m.nums
  else if m.kind = 10 then [m.by_].flatMap numS ++ textS m.view ++ [m.tag, m.own].flatMap digS
  else if m.kind = 11 then [m.own].flatMap digS else []
def Msg.bytes (m : Msg) : List UInt8 := [m.kind].flatMap numS ++ (if m.kind = 2 ∨ m.kind = 4 ∨ m.kind = 6 then [] else [m.client].flatMap numS) ++ m.rest

section
variable {σ : AST} {K : AV → AST → Prop} {tk : Tk}
end
theorem InI.len {l : List Int} (h : InI l) : (l.flatMap numS).length ≤ l.length * 22 := by have := numsN h l.length; simpa using this
theorem appc {α : Type} {a : α} {l m : List α} : List.append (a :: l) m = a :: List.append l m := rfl
theorem appn {α : Type} {m : List α} : List.append [] m = m := rfl
attribute [local go_sem] bin_bool_ne appc appn

theorem msgSet_9n {m : Msg} {t u v : Tk} : (msgPs t u m).set 9 (.slice v []) = msgPs t v { m with nums := [] } := rfl
attribute [local go_sem] bin_bool_ne appc appn msgSet_9n

def Msg.head (m : Msg) : Msg := { msg0 with kind := m.kind, client := m.client }
end Go.Aff.L10

namespace Go.Aff

variable {P : Program} {σ σ' : AST} {ops : Array Oper} {τ : Env} {KE : Env → AST → Prop}

inductive Tu where
  | nil
  | op (i k : Nat) (r : Tu)
  | fork (e : Nat) (a b : Tu)
  | cut (r : Tu)
def Tu.tr : Tu → Tr
  | .nil => .nil
  | .op i _ r => .op i r.tr
  | .fork e a b => .fork e a.tr b.tr
  | .cut r => r.tr
def Tu.all : Tu → List Nat
  | .nil => []
  | .op i k r => if k = 1 ∨ k = 3 then i :: r.all else r.all
  | .fork _ a b => a.all ++ b.all
  | .cut r => r.all
def Tu.effs : Tu → List Nat
  | .nil => []
  | .op i k r => if k = 1 then i :: r.all else r.effs
  | .fork _ a b => a.effs ++ b.effs
  | .cut r => r.effs
def seqU (P : Program) (ops : Array Oper) : Tu → List Nat → Env → AST → (Env → AST → Prop) → Prop
  | .nil, ks, τ, σ, K => K τ σ
  | .op i 1 r, ks, τ, σ, K => match gop ops i with
    | none => False
    | some o => stepW P ops o τ σ fun v σ' => keeps ks σ σ' ∧ seqU P ops r ks (τ.putO o.dst v) σ' K
  | .op i 0 r, ks, τ, σ, K => match gop ops i with
    | none => False
    | some o => stepW P ops o τ σ fun v σ' => σ' = σ ∧ seqU P ops r (reads (ev τ) o.op ++ ks) (τ.putO o.dst v) σ' K
  | .op i _ r, ks, τ, σ, K => match gop ops i with
    | none => False
    | some o => stepW P ops o τ σ fun v σ' => σ' = σ ∧ seqU P ops r ks (τ.putO o.dst v) σ' K
  | .fork _ a b, ks, τ, σ, K => seqU P ops a ks τ σ K ∧ seqU P ops b ks τ σ K
  | .cut r, ks, τ, σ, K => seqU P ops r [] τ σ K

def flagsU (P : Program) (ops : Array Oper) : Tu → List Nat → Bool
  | .nil, _ => true
  | .op i k r, zs => (match ops[i]? with
    | none => false
    | some o => effO P o == (k == 1 || k == 3)) && (k == 0 || k == 1 || k == 3 || r.effs.all fun y => ahead (anc ops) y i) && flagsU P ops r (if k = 0 then i :: zs else zs)
  | .fork _ a b, zs => flagsU P ops a zs && flagsU P ops b zs
  | .cut r, zs => (zs.all fun z => r.effs.all fun y => ahead (anc ops) y z) && flagsU P ops r []

def pastU (P : Program) (ops : Array Oper) (ks zs : List Nat) (past : List (Nat × Env × AV)) (T : Tu) (σ : AST) : Prop :=
  ∀ x ∈ past, (validT P ops x σ ∧ x.1 ∈ zs ∧ ∀ o, ops[x.1]? = some o → ∀ k ∈ reads (ev x.2.1) o.op, k ∈ ks) ∨ (validT P ops x σ ∧ ∀ y ∈ T.effs, ahead (anc ops) y x.1 = true) ∨ (∀ y ∈ T.all, ahead (anc ops) y x.1 = true)

theorem seqU_pure (i k : Nat) (r : Tu) (ks zs : List Nat) (past : List (Nat × Env × AV)) (τ : Env) (σ : AST) (k0 : k ≠ 0) (k1 : k ≠ 1) (k3 : k ≠ 3)
    (ih : ∀ (past' : List (Nat × Env × AV)) (τ' : Env), flagsU P ops r zs = true → pastU P ops ks zs past' r σ → (∀ t, lenOk (τ' t)) → seqU P ops r ks τ' σ KE → awpT P ops r.tr past' τ' σ KE)
    (hf : flagsU P ops (.op i k r) zs = true) (hp : pastU P ops ks zs past (.op i k r) σ) (hlen : ∀ t, lenOk (τ t))
    (h : match gop ops i with
      | none => False
      | some o => stepW P ops o τ σ fun v σ' => σ' = σ ∧ seqU P ops r ks (τ.putO o.dst v) σ' KE) : awpT P ops (Tu.op i k r).tr past τ σ KE := by
  split at h
  · exact h.elim
  · rename_i o hk
    have hk : ops[i]? = some o := hk
    simp only [flagsU, hk, Bool.and_eq_true, beq_iff_eq] at hf
    have b0 : (k == 0) = false := by simpa using k0
    have b1 : (k == 1) = false := by simpa using k1
    have b3 : (k == 3) = false := by simpa using k3
    rw [b0, b1, b3, if_neg k0] at hf
    have he : effO P o = false := by simpa using hf.1.1
    have hall : (r.effs.all fun y => ahead (anc ops) y i) = true := by simpa using hf.1.2
    rw [List.all_eq_true] at hall
    simp only [Tu.tr, awpT, hk, he, Bool.false_eq_true, if_false]
    obtain ⟨v, hv, hkk⟩ := stepW_det hlen he h
    refine hkk _ fun hlv => ih _ _ hf.2 ?_ hlv hv.2
    intro x hx
    rcases List.mem_cons.1 hx with rfl | hx
    · right; left
      refine ⟨fun o' ho' => ?_, hall⟩
      dsimp only at ho' ⊢
      rw [hk] at ho'; cases ho'
      exact ⟨hlen, he, hkk _ ⟨rfl, rfl⟩⟩
    · rcases hp x hx with ⟨h0, h1⟩ | ⟨h0, h1⟩ | h0
      · exact .inl ⟨h0, h1⟩
      · exact .inr (.inl ⟨h0, fun y hy => h1 y (by simpa [Tu.effs, k1] using hy)⟩)
      · exact .inr (.inr fun y hy => h0 y (by simpa [Tu.all, k1, k3] using hy))
theorem seqU_awpT : ∀ (T : Tu) (ks zs : List Nat) (past : List (Nat × Env × AV)) (τ : Env) (σ : AST), flagsU P ops T zs = true → pastU P ops ks zs past T σ → (∀ t, lenOk (τ t)) → seqU P ops T ks τ σ KE → awpT P ops T.tr past τ σ KE
  | .nil, ks, zs, past, τ, σ, hf, hp, hlen, h => h
  | .fork e a b, ks, zs, past, τ, σ, hf, hp, hlen, h => by
    simp only [flagsU, Bool.and_eq_true] at hf
    simp only [seqU] at h
    refine ⟨seqU_awpT a ks zs past τ σ hf.1 (fun x hx => ?_) hlen h.1, seqU_awpT b ks zs past τ σ hf.2 (fun x hx => ?_) hlen h.2⟩
    · rcases hp x hx with h | ⟨h1, h2⟩ | h
      · exact .inl h
      · exact .inr (.inl ⟨h1, fun y hy => h2 y (by simp [Tu.effs, hy])⟩)
      · exact .inr (.inr fun y hy => h y (by simp [Tu.all, hy]))
    · rcases hp x hx with h | ⟨h1, h2⟩ | h
      · exact .inl h
      · exact .inr (.inl ⟨h1, fun y hy => h2 y (by simp [Tu.effs, hy])⟩)
      · exact .inr (.inr fun y hy => h y (by simp [Tu.all, hy]))
  | .cut r, ks, zs, past, τ, σ, hf, hp, hlen, h => by
    simp only [flagsU, Bool.and_eq_true, List.all_eq_true] at hf
    simp only [seqU] at h
    refine seqU_awpT r [] [] past τ σ hf.2 (fun x hx => ?_) hlen h
    rcases hp x hx with ⟨h0, hz, _⟩ | ⟨h0, h1⟩ | h0
    · exact .inr (.inl ⟨h0, fun y hy => hf.1 x.1 hz y hy⟩)
    · exact .inr (.inl ⟨h0, fun y hy => h1 y (by simpa [Tu.effs] using hy)⟩)
    · exact .inr (.inr fun y hy => h0 y (by simpa [Tu.all] using hy))
  | .op i 1 r, ks, zs, past, τ, σ, hf, hp, hlen, h => by
    simp only [seqU] at h
    split at h
    · exact h.elim
    · rename_i o hk
      have hk : ops[i]? = some o := hk
      simp only [flagsU, hk, Bool.and_eq_true, beq_iff_eq] at hf
      have he : effO P o = true := by simpa using hf.1.1
      simp only [Tu.tr, awpT, hk, he, if_true]
      refine stepW_mono (fun v σ' hh => ?_) h
      refine ⟨fun x hx hah o ho => ?_, fun hlv => seqU_awpT r ks zs past _ _ (by simpa using hf.2) ?_ hlv hh.2⟩
      · rcases hp x hx with ⟨h0, hz, h3⟩ | ⟨_, h0⟩ | h0
        · obtain ⟨h1, h2, h4⟩ := h0 o ho
          exact step_same h1 h2 (fun k hk => hh.1 k (h3 o ho k hk)) h4
        · rw [h0 i (by simp [Tu.effs])] at hah; cases hah
        · rw [h0 i (by simp [Tu.all])] at hah; cases hah
      · intro x hx
        rcases hp x hx with ⟨h0, hz, h3⟩ | ⟨_, h0⟩ | h0
        · left
          refine ⟨fun o ho => ?_, hz, h3⟩
          obtain ⟨h1, h2, h4⟩ := h0 o ho
          exact ⟨h1, h2, step_same h1 h2 (fun k hk => hh.1 k (h3 o ho k hk)) h4⟩
        · right; right
          intro y hy; exact h0 y (by simp [Tu.effs, hy])
        · right; right
          intro y hy; exact h0 y (by simp [Tu.all, hy])
  | .op i 3 r, ks, zs, past, τ, σ, hf, hp, hlen, h => by
    simp only [seqU] at h
    split at h
    · exact h.elim
    · rename_i o hk
      have hk : ops[i]? = some o := hk
      simp only [flagsU, hk, Bool.and_eq_true, beq_iff_eq] at hf
      have he : effO P o = true := by simpa using hf.1.1
      simp only [Tu.tr, awpT, hk, he, if_true]
      refine stepW_mono (fun v σ' hh => ?_) h
      obtain ⟨rfl, hh⟩ := hh
      refine ⟨fun x hx hah o ho => ?_, fun hlv => seqU_awpT r ks zs past _ _ (by simpa using hf.2) ?_ hlv hh⟩
      · rcases hp x hx with ⟨h0, h3⟩ | ⟨h0, _⟩ | h0
        · exact (h0 o ho).2.2
        · exact (h0 o ho).2.2
        · rw [h0 i (by simp [Tu.all])] at hah; cases hah
      · intro x hx
        rcases hp x hx with h0 | ⟨h0, h1⟩ | h0
        · exact .inl h0
        · exact .inr (.inl ⟨h0, fun y hy => h1 y (by simpa [Tu.effs] using hy)⟩)
        · exact .inr (.inr fun y hy => h0 y (by simp [Tu.all, hy]))
  | .op i 0 r, ks, zs, past, τ, σ, hf, hp, hlen, h => by
    simp only [seqU] at h
    split at h
    · exact h.elim
    · rename_i o hk
      have hk : ops[i]? = some o := hk
      simp only [flagsU, hk, Bool.and_eq_true, beq_iff_eq] at hf
      have he : effO P o = false := by simpa using hf.1.1
      simp only [Tu.tr, awpT, hk, he, Bool.false_eq_true, if_false]
      obtain ⟨v, hv, hkk⟩ := stepW_det hlen he h
      refine hkk _ fun hlv => seqU_awpT r _ (i :: zs) _ _ _ (by simpa using hf.2) ?_ hlv hv.2
      intro x hx
      rcases List.mem_cons.1 hx with rfl | hx
      · left
        refine ⟨fun o' ho' => ?_, List.mem_cons_self .., fun o' ho' k hkr => ?_⟩
        · dsimp only at ho' ⊢
          rw [hk] at ho'; cases ho'
          exact ⟨hlen, he, hkk _ ⟨rfl, rfl⟩⟩
        · dsimp only at ho' hkr
          rw [hk] at ho'; cases ho'
          exact List.mem_append_left _ hkr
      · rcases hp x hx with ⟨h0, hz, h1⟩ | ⟨h0, h1⟩ | h0
        · exact .inl ⟨h0, List.mem_cons_of_mem _ hz, fun o' ho' k hkr => List.mem_append_right _ (h1 o' ho' k hkr)⟩
        · exact .inr (.inl ⟨h0, fun y hy => h1 y (by simpa [Tu.effs] using hy)⟩)
        · exact .inr (.inr fun y hy => h0 y (by simpa [Tu.all] using hy))
  | .op i 2 r, ks, zs, past, τ, σ, hf, hp, hlen, h => seqU_pure i 2 r ks zs past τ σ (by decide) (by decide) (by decide) (fun past' K' h1 h2 h3 h4 => seqU_awpT r ks zs past' _ σ h1 h2 h3 h4) hf hp hlen (by simpa only [seqU] using h)
  | .op i (n + 4) r, ks, zs, past, τ, σ, hf, hp, hlen, h => seqU_pure i (n + 4) r ks zs past τ σ (by omega) (by omega) (by omega) (fun past' K' h1 h2 h3 h4 => seqU_awpT r ks zs past' _ σ h1 h2 h3 h4) hf hp hlen (by simpa only [seqU] using h)

theorem awp_drawU {id : Nat} {ops : Array Oper} {Q : Exit → Env → AST → Prop} (T : Tu) (ho : (trOk P ops T.tr && flagsU P ops T []) = true) (h : seqU P ops T [] τ σ (Q .normal)) : awp P (.region id ops true) Q τ σ := by
  rw [Bool.and_eq_true] at ho
  exact awp_drawTree _ ho.1 fun hlen => seqU_awpT T [] [] [] τ σ ho.2 (fun x hx => by simp at hx) hlen h

def seqU0 (P : Program) (ops : Array Oper) (o : Option Oper) (r : Tu) (ks : List Nat) (τ : Env) (σ : AST) (K : Env → AST → Prop) : Prop := match o with
  | none => False
  | some o => stepW P ops o τ σ fun v σ' => σ' = σ ∧ seqU P ops r (reads (ev τ) o.op ++ ks) (τ.putO o.dst v) σ' K
def seqU1 (P : Program) (ops : Array Oper) (o : Option Oper) (r : Tu) (ks : List Nat) (τ : Env) (σ : AST) (K : Env → AST → Prop) : Prop := match o with
  | none => False
  | some o => stepW P ops o τ σ fun v σ' => keeps ks σ σ' ∧ seqU P ops r ks (τ.putO o.dst v) σ' K
def seqU2 (P : Program) (ops : Array Oper) (o : Option Oper) (r : Tu) (ks : List Nat) (τ : Env) (σ : AST) (K : Env → AST → Prop) : Prop := match o with
  | none => False
  | some o => stepW P ops o τ σ fun v σ' => σ' = σ ∧ seqU P ops r ks (τ.putO o.dst v) σ' K
variable {ks : List Nat}
theorem seqU_nil : seqU P ops .nil ks τ σ KE = KE τ σ := nr rfl
theorem seqU_1 {i : Nat} {r : Tu} : seqU P ops (.op i 1 r) ks τ σ KE = seqU1 P ops (gop ops i) r ks τ σ KE := by simp only [seqU, seqU1]
theorem seqU_0 {i : Nat} {r : Tu} : seqU P ops (.op i 0 r) ks τ σ KE = seqU0 P ops (gop ops i) r ks τ σ KE := by simp only [seqU, seqU0]
theorem seqU_3 {i : Nat} {r : Tu} : seqU P ops (.op i 3 r) ks τ σ KE = seqU2 P ops (gop ops i) r ks τ σ KE := by simp only [seqU, seqU2]
theorem seqU_2 {i : Nat} {r : Tu} : seqU P ops (.op i 2 r) ks τ σ KE = seqU2 P ops (gop ops i) r ks τ σ KE := by simp only [seqU, seqU2]
theorem seqU_cut {r : Tu} : seqU P ops (.cut r) ks τ σ KE = seqU P ops r [] τ σ KE := by simp only [seqU]
theorem seqU_fork {e : Nat} {a b : Tu} : seqU P ops (.fork e a b) ks τ σ KE = Both (@Later ⟨seqU P ops a ks τ σ KE⟩) (@Later ⟨seqU P ops b ks τ σ KE⟩) := by
  simp only [seqU, Later, eq_iff_iff]
  exact ⟨fun h => ⟨h.1, h.2⟩, fun h => ⟨h.l, h.r⟩⟩
theorem seqU1_some {o : Oper} {r : Tu} : seqU1 P ops (some o) r ks τ σ KE = stepW P ops o τ σ (@Lam ⟨fun v σ' => @Later ⟨keeps ks σ σ' ∧ seqU P ops r ks (τ.putO o.dst v) σ' KE⟩⟩) := nr rfl
theorem seqU0_some {o : Oper} {r : Tu} : seqU0 P ops (some o) r ks τ σ KE = stepW P ops o τ σ (@Lam ⟨fun v σ' => σ' = σ ∧ @Later ⟨seqU P ops r (reads (ev τ) o.op ++ ks) (τ.putO o.dst v) σ' KE⟩⟩) := nr rfl
theorem seqU2_some {o : Oper} {r : Tu} : seqU2 P ops (some o) r ks τ σ KE = stepW P ops o τ σ (@Lam ⟨fun v σ' => σ' = σ ∧ @Later ⟨seqU P ops r ks (τ.putO o.dst v) σ' KE⟩⟩) := nr rfl
attribute [go_sem ↓] seqU_nil seqU_0 seqU_1 seqU_2 seqU_3 seqU_fork seqU_cut seqU0_some seqU1_some seqU2_some
end Go.Aff

namespace Go.Aff

variable {P : Program} {σ : AST} {ρ : Operand → AV} {K : AV → AST → Prop} {dst : Option Tmp} {ty : TypeId} {pos : String} {after : Array Edge} {gd : Option (Nat × Bool)}
theorem op_lookup {t : TypeId} {x k : Operand} {ok : Bool} : opW P ρ ⟨dst, .lookup t x k ok, ty, pos, after, gd⟩ σ K = lookupW P σ t (ρ x) (ρ k) ok (At K σ) := nr rfl
theorem op_mapUpdate {t : TypeId} {m k v : Operand} : opW P ρ ⟨dst, .mapUpdate t m k v, ty, pos, after, gd⟩ σ K = mapUpdateW P σ t (ρ m) (ρ k) (ρ v) (AtS K .undef) := nr rfl
theorem op_mapEntry {t : TypeId} {m k : Operand} : opW P ρ ⟨dst, .mapEntry t m k, ty, pos, after, gd⟩ σ K = mapEntryW P σ t (ρ m) (ρ k) K := nr rfl
theorem op_entryStore {t : TypeId} {m st v : Operand} : opW P ρ ⟨dst, .entryStore t m st v, ty, pos, after, gd⟩ σ K = entryStoreW σ (ρ m) (ρ st) (ρ v) (AtS K .undef) := nr rfl
theorem op_makeMap {t : TypeId} : opW P ρ ⟨dst, .makeMap t none, ty, pos, after, gd⟩ σ K = K (.mp (some σ.objs.length)) (σ.push (.map [] 0)) := nr rfl
theorem op_makeSlice {t : TypeId} {n c : Operand} : opW P ρ ⟨dst, .makeSlice t n c, ty, pos, after, gd⟩ σ K = makeSliceW P t (ρ n) (ρ c) σ K := nr rfl
theorem op_delete {s x : Operand} {ts : Array TypeId} : opW P ρ ⟨dst, .call ⟨.builtin .delete, #[s, x], ts⟩, ty, pos, after, gd⟩ σ K = deleteW P ts (ρ s) (ρ x) σ (AtS K (.tuple [])) := nr rfl
theorem op_clear {s : Operand} {ts : Array TypeId} : opW P ρ ⟨dst, .call ⟨.builtin .clear, #[s], ts⟩, ty, pos, after, gd⟩ σ K = clearW P ts (ρ s) σ (AtS K (.tuple [])) := nr rfl
theorem op_range {t : TypeId} {x : Operand} : opW P ρ ⟨dst, .range t x, ty, pos, after, gd⟩ σ K = rangeW P σ t (ρ x) K := nr rfl
theorem op_next {x : Operand} {s : Bool} : opW P ρ ⟨dst, .next x s, ty, pos, after, gd⟩ σ K = nextW σ (ρ x) s K := nr rfl
theorem op_entry {x : Operand} : opW P ρ ⟨dst, .entry x, ty, pos, after, gd⟩ σ K = entryW σ (ρ x) (At K σ) := nr rfl
attribute [go_sem ↓] op_range op_next op_entry op_lookup op_mapUpdate op_mapEntry op_entryStore op_makeMap op_makeSlice op_delete op_clear
end Go.Aff

namespace Go.Aff

def invokeW (P : Program) (v : AV) (m : String) (ws : List AV) (σ : AST) (K : AV → AST → Prop) : Prop := match v with
  | .iface t v => ∃ f, methodIs P t m f ∧ TCalls P f (v :: ws) σ K
  | _ => False
section
variable {P : Program} {ρ : Operand → AV} {σ : AST} {K : AV → AST → Prop}
theorem op_invoke {r : Operand} {m : String} {args : Array Operand} {ts : Array TypeId} {dst : Option Nat} {ty : TypeId} {pos : String} {after : Array Edge} {gd : Option (Nat × Bool)} :
    opW P ρ ⟨dst, .call ⟨.invoke r m, args, ts⟩, ty, pos, after, gd⟩ σ K = invokeW P (ρ r) m (args.toList.map ρ) σ K := by
  simp only [opW, callW, invokeW]
  cases ρ r <;> rfl
theorem invoke_iface {t : TypeId} {v : AV} {m : String} {ws : List AV} {f : FuncId} (h : methodIs P t m f) (hK : TCalls P f (v :: ws) σ K) : invokeW P (.iface t v) m ws σ K := ⟨f, h, hK⟩
end
theorem mm_max {k : IntKind} {a b : Int} {KV : AV → Prop} : mmW true [.int k a, .int k b] KV = KV (.int k (max a b)) := by simp [mmW]
theorem ni_int {k : IntKind} : (∃ d, some (TypeDesc.int k) = some d ∧ ∀ ms, ¬ d = TypeDesc.interface ms) = True := eq_true ⟨_, rfl, fun _ h => nomatch h⟩
theorem ni_struct {fs : Array Field} : (∃ d, some (TypeDesc.struct fs) = some d ∧ ∀ ms, ¬ d = TypeDesc.interface ms) = True := eq_true ⟨_, rfl, fun _ h => nomatch h⟩
theorem ni_slice {t : TypeId} : (∃ d, some (TypeDesc.slice t) = some d ∧ ∀ ms, ¬ d = TypeDesc.interface ms) = True := eq_true ⟨_, rfl, fun _ h => nomatch h⟩
attribute [go_sem ↓] op_invoke
attribute [go_sem] ni_int ni_struct ni_slice
attribute [go_sem] mm_max
end Go.Aff

namespace Go.Aff.L10
open Go.Proofs Go.Aff Go.Aff.L01 Classical
set_option maxRecDepth 20000
attribute [local go_sem] push_app app_app length_app cellAt_app cellAt_app0 set_app set_app0 objs_app objs_app0 List.cons_append List.nil_append List.length_cons List.length_nil List.getElem?_cons_zero List.getElem?_cons_succ List.set_cons_zero List.set_cons_succ List.length_map
attribute [-go_sem] cellAt_new
attribute [-simp] List.length_flatMap
attribute [local go_sem] Try.underlying9
attribute [local go_sem] fits3
attribute [local go_sem ↓] blockQ_exit2
structure Shp where
  kind : Int
  size : Int
def shp0 : Shp := ⟨0, 0⟩
def shpPs (x : Shp) : List AV := [.int .i64 x.kind, .int .i64 x.size]
abbrev shpV (x : Shp) : AV := .agg (shpPs x)
theorem shpPs_0 {x : Shp} : (shpPs x)[0]? = some (.int .i64 x.kind) := nr rfl
theorem shpAt_0 {x : Shp} {v : AV} : partIs Try.prog 58 (shpPs x) 0 v = fits Try.prog 3 v := by rw [partIs_of (o := 0) (T := 3) (by kernel_rfl)]; simp [shpPs, AV.sizes, AV.size]
theorem shpSet_0 {x : Shp} {y : Int} : (shpPs x).set 0 (.int .i64 y) = shpPs { x with kind := y } := nr rfl
theorem shpPs_1 {x : Shp} : (shpPs x)[1]? = some (.int .i64 x.size) := nr rfl
theorem shpAt_1 {x : Shp} {v : AV} : partIs Try.prog 58 (shpPs x) 1 v = fits Try.prog 3 v := by rw [partIs_of (o := 1) (T := 3) (by kernel_rfl)]; simp [shpPs, AV.sizes, AV.size]
theorem shpSet_1 {x : Shp} {y : Int} : (shpPs x).set 1 (.int .i64 y) = shpPs { x with size := y } := nr rfl
theorem sizes_shp {x : Shp} : AV.sizes (shpPs x) = 2 := by simp [shpPs, AV.sizes, AV.size]
theorem shapes_shp {x : Shp} : AV.shapes (shpPs x) = [.leaf, .leaf] := by simp [shpPs, AV.shapes, AV.shape]
theorem fits_shp {v : AV} : fits Try.prog 58 v = (v.isAgg = true ∧ v.size = 2) := fits_agg (by kernel_rfl) (by kernel_rfl)
theorem zero_shp : zeroA Try.prog 12 58 = .agg (shpPs shp0) := by kernel_rfl
theorem zt_shp : ZeroOf Try.prog 58 (.agg (shpPs shp0)) = True := eq_true ⟨_, _, rfl, rfl, rfl, rfl, rfl⟩
theorem built_shp : Built Try.prog 58 = True := eq_true (by unfold Built; rw [Try.underlying58]; decide +kernel)
/-ATTR shpPs_0 shpAt_0 shpSet_0 shpPs_1 shpAt_1 shpSet_1 sizes_shp shapes_shp fits_shp zero_shp zt_shp built_shp Try.underlying58 -/
attribute [local go_sem] Try.underlying58 Try.underlying135 Try.underlying136 Try.underlying138 Try.underlying139
abbrev Rng (n : Int) : Prop := -9223372036854775808 ≤ n ∧ n ≤ 9223372036854775807
inductive Part where
  | num (n : Int)
  | txt (n : Int)
  | sgn
  | lst (tk : Tk) (l : List Int)
def partV : Part → AV
  | .num n => .iface 135 (.int .i64 n)
  | .txt n => .iface 136 (.int .i64 n)
  | .sgn => .iface 138 (.agg [])
  | .lst tk l => .iface 139 (.slice tk (l.map (AV.int .i64)))
def nlen (n : Int) : Nat := (numS n).length
def tlen (n : Int) : Nat := nlen (max n 0) + (max n 0).toNat
def llen (l : List Int) : Nat := (l.map nlen).sum
def Part.len : Part → Nat
  | .num n => nlen n
  | .txt n => tlen n
  | .sgn => 35
  | .lst _ l => 2 + llen l
def Part.Ok : Part → Prop
  | .num n => Rng n
  | .txt n => n ≤ 4398046511104
  | .sgn => True
  | .lst _ l => l.length ≤ 10000 ∧ ∀ n ∈ l, Rng n
theorem nlen_le {n : Int} (h : Rng n) : nlen n ≤ 22 := numS_len h.1 h.2
theorem llen_take {l : List Int} (h : ∀ n ∈ l, Rng n) : llen l ≤ 22 * l.length := by
  induction l with
  | nil => simp [llen]
  | cons a l ih =>
    have h1 := nlen_le (h a (List.mem_cons_self ..))
    have h2 := ih fun n hn => h n (List.mem_cons_of_mem _ hn)
    simp only [llen, List.map_cons, List.sum_cons, List.length_cons] at h2 ⊢
    omega
theorem num_size {n : Int} (h : Rng n) {σ : AST} {K : AV → AST → Prop} (hK : K (.int .i64 (nlen n)) σ) : TCalls Try.prog 97 [.int .i64 n] σ K := by
  refine tcalls_walk Try.f97 _ [.tmp 2] Try.func97 rfl rfl rfl mixed (Nat.le_of_ble_eq_true rfl) rfl fun hlen => ?_
  repeat' (first | (simp -dsimp only [↓reduceIte, go_sem]) | (refine arr_intro fun _ => ?_) | (refine later_intro ⟨keeps_nil, ?_⟩) | (refine later_intro ⟨keeps_refl, ?_⟩) | (with_reducible refine keeps_go ?_ ?_; focus (first | (simp [keeps_cons, keeps_none, objs_app, objs_app0]; done) | (simp only [keeps_cons, keeps_none, objs_app0, objs_app, and_true]; first | rfl | exact ⟨rfl, rfl⟩ | exact ⟨rfl, rfl, rfl⟩))) | (with_reducible refine (And.intro (a := keeps _ _ _) ?_ ?_); focus (first | (simp [keeps_cons, keeps_none, objs_app, objs_app0]; done) | (simp only [keeps_cons, keeps_none, objs_app0, objs_app, and_true]; first | rfl | exact ⟨rfl, rfl⟩ | exact ⟨rfl, rfl, rfl⟩))) | (refine both_ways ?_ ?_) | (rw [wrap_i64 (by omega) (by omega)]) | (refine guardV_split (fun h => ?_) (fun h => ?_) <;> (try rw [h]) <;> (try simp at h) <;> (try (exfalso; omega))) | (refine L01.number_c h.1 h.2 ?_))
  exact hK
theorem txt_size {n : Int} (h : n ≤ 4398046511104) {σ : AST} {K : AV → AST → Prop} (hK : K (.int .i64 (tlen n)) σ) : TCalls Try.prog 138 [.int .i64 n] σ K := by
  have hr : Rng (max n 0) := ⟨by omega, by omega⟩
  have hl := nlen_le hr
  have e : ((tlen n : Nat) : Int) = (nlen (max n 0) : Nat) + max n 0 := by unfold tlen; omega
  have w : IntKind.i64.wrap (((numS (max n 0)).length : Nat) + max n 0) = (tlen n : Nat) := by
    rw [e]; exact wrap_i64 (by unfold nlen at hl; omega) (by unfold nlen at hl; omega)
  refine tcalls_walk Try.f138 _ [.tmp 2] Try.func138 rfl rfl rfl mixed (Nat.le_of_ble_eq_true rfl) rfl fun hlen => ?_
  repeat' (first | (simp -dsimp only [↓reduceIte, go_sem, w]) | (refine arr_intro fun _ => ?_) | (refine later_intro ⟨keeps_nil, ?_⟩) | (refine later_intro ⟨keeps_refl, ?_⟩) | (with_reducible refine keeps_go ?_ ?_; focus (first | (simp [keeps_cons, keeps_none, objs_app, objs_app0]; done) | (simp only [keeps_cons, keeps_none, objs_app0, objs_app, and_true]; first | rfl | exact ⟨rfl, rfl⟩ | exact ⟨rfl, rfl, rfl⟩))) | (with_reducible refine (And.intro (a := keeps _ _ _) ?_ ?_); focus (first | (simp [keeps_cons, keeps_none, objs_app, objs_app0]; done) | (simp only [keeps_cons, keeps_none, objs_app0, objs_app, and_true]; first | rfl | exact ⟨rfl, rfl⟩ | exact ⟨rfl, rfl, rfl⟩))) | (refine both_ways ?_ ?_) | (rw [wrap_i64 (by omega) (by omega)]) | (refine guardV_split (fun h => ?_) (fun h => ?_) <;> (try rw [h]) <;> (try simp at h) <;> (try (exfalso; omega))) | (refine L01.number_c hr.1 hr.2 ?_))
  exact hK
theorem zero138 : zeroA Try.prog 12 138 = .agg [] := by kernel_rfl
theorem zt138 : ZeroOf Try.prog 138 (.agg []) = True := eq_true ⟨_, _, rfl, rfl, rfl, rfl, rfl⟩
theorem built138 : Built Try.prog 138 = True := eq_true (by unfold Built; rw [Try.underlying138]; decide +kernel)
theorem tlen32 : tlen 32 = 35 := by
  have e : numS 32 = [51, 50, 59] := by
    rw [numS, if_neg (by decide)]
    rw [show (32 : Int).natAbs = 32 from rfl, dg, if_neg (by decide), dg_small (by decide)]
    rfl
  show (numS 32).length + 32 = 35
  rw [e]; rfl
theorem sgn_size {σ : AST} {K : AV → AST → Prop} (hK : K (.int .i64 35) σ) : TCalls Try.prog 139 [.agg []] σ K := by
  refine TCalls.drop ?_
  refine tcalls_walk Try.f139 _ [.tmp 2] Try.func139 rfl rfl rfl mixed (Nat.le_of_ble_eq_true rfl) rfl fun hlen => ?_
  repeat' (first | (simp -dsimp only [↓reduceIte, go_sem, tlen32]) | (refine arr_intro fun _ => ?_) | (refine later_intro ⟨keeps_nil, ?_⟩) | (refine later_intro ⟨keeps_refl, ?_⟩) | (with_reducible refine keeps_go ?_ ?_; focus (first | (simp [keeps_cons, keeps_none, objs_app, objs_app0]; done) | (simp only [keeps_cons, keeps_none, objs_app0, objs_app, and_true]; first | rfl | exact ⟨rfl, rfl⟩ | exact ⟨rfl, rfl, rfl⟩))) | (with_reducible refine (And.intro (a := keeps _ _ _) ?_ ?_); focus (first | (simp [keeps_cons, keeps_none, objs_app, objs_app0]; done) | (simp only [keeps_cons, keeps_none, objs_app0, objs_app, and_true]; first | rfl | exact ⟨rfl, rfl⟩ | exact ⟨rfl, rfl, rfl⟩))) | (refine both_ways ?_ ?_) | (rw [wrap_i64 (by omega) (by omega)]) | (refine guardV_split (fun h => ?_) (fun h => ?_) <;> (try rw [h]) <;> (try simp at h) <;> (try (exfalso; omega))) | (refine txt_size (by decide) ?_))
  exact ⟨Ext.app _ _, rfl, by simpa [AV.strip] using hK⟩
theorem lst_size {l : List Int} {tk : Tk} (hl : l.length ≤ 10000) (h : ∀ n ∈ l, Rng n) {σ : AST} {K : AV → AST → Prop} (hK : K (.int .i64 ((2 + llen l : Nat) : Int)) σ) : TCalls Try.prog 140 [.slice tk (l.map (AV.int .i64))] σ K := by
  refine tcalls_walk Try.f140 _ [.tmp 2] Try.func140 rfl rfl rfl mixed (Nat.le_of_ble_eq_true rfl) rfl fun hlen => ?_
  repeat' (first | (simp -dsimp only [↓reduceIte, go_sem]) | (refine arr_intro fun _ => ?_) | (refine later_intro ⟨keeps_nil, ?_⟩) | (refine later_intro ⟨keeps_refl, ?_⟩) | (with_reducible refine keeps_go ?_ ?_; focus (first | (simp [keeps_cons, keeps_none, objs_app, objs_app0]; done) | (simp only [keeps_cons, keeps_none, objs_app0, objs_app, and_true]; first | rfl | exact ⟨rfl, rfl⟩ | exact ⟨rfl, rfl, rfl⟩))) | (with_reducible refine (And.intro (a := keeps _ _ _) ?_ ?_); focus (first | (simp [keeps_cons, keeps_none, objs_app, objs_app0]; done) | (simp only [keeps_cons, keeps_none, objs_app0, objs_app, and_true]; first | rfl | exact ⟨rfl, rfl⟩ | exact ⟨rfl, rfl, rfl⟩))) | (refine both_ways ?_ ?_) | (rw [wrap_i64 (by omega) (by omega)]) | (refine guardV_split (fun h => ?_) (fun h => ?_) <;> (try rw [h]) <;> (try simp at h) <;> (try (exfalso; omega))))
  refine awp_rounds (fun (i : Nat) τ s' => s' = σ ∧ i ≤ l.length ∧ τ 3 = .int .i64 ((2 + llen (l.take i) : Nat) : Int) ∧ τ 6 = .slice tk (l.map (AV.int .i64)) ∧ τ 7 = .int .i64 l.length ∧ τ 8 = .int .i64 i) (fun i => l.length - i) 0 ?_ ?_
  · refine ⟨rfl, by omega, ?_, ?_, ?_, ?_⟩ <;> (try simp only [go_sem]) <;> (try rfl)
  · rintro i τ s' ⟨rfl, hi, t3, t6, t7, t8⟩
    by_cases hlt : i < l.length
    · have hlt1 : (i : Int) < l.length := by omega
      have hx : l[i]? = some l[i] := List.getElem?_eq_getElem hlt
      have hr := h _ (List.getElem_mem hlt)
      have e : l.take (i + 1) = l.take i ++ [l[i]] := (List.take_append_getElem hlt).symm
      generalize l[i] = x at hx hr e
      have hn := nlen_le hr
      have hs := llen_take (l := l.take i) fun n hn => h n (List.mem_of_mem_take hn)
      rw [List.length_take] at hs
      have e2 : llen (l.take (i + 1)) = llen (l.take i) + nlen x := by rw [e]; simp [llen]
      have w1 : IntKind.i64.wrap ((i : Int) + 1) = (i : Int) + 1 := wrap_i64 (by omega) (by omega)
      have w2 : IntKind.i64.wrap (((2 + llen (l.take i) : Nat) : Int) + (nlen x : Nat)) = ((2 + llen (l.take (i + 1)) : Nat) : Int) := by rw [wrap_i64 (by omega) (by omega), e2]; omega
      repeat' (first | (simp -dsimp only [↓reduceIte, go_sem, t3, t6, t7, t8, hlt1, w1, w2]) | (refine arr_intro fun _ => ?_) | (refine later_intro ⟨keeps_nil, ?_⟩) | (refine later_intro ⟨keeps_refl, ?_⟩) | (with_reducible refine keeps_go ?_ ?_; focus (first | (simp [keeps_cons, keeps_none, objs_app, objs_app0]; done) | (simp only [keeps_cons, keeps_none, objs_app0, objs_app, and_true]; first | rfl | exact ⟨rfl, rfl⟩ | exact ⟨rfl, rfl, rfl⟩))) | (with_reducible refine (And.intro (a := keeps _ _ _) ?_ ?_); focus (first | (simp [keeps_cons, keeps_none, objs_app, objs_app0]; done) | (simp only [keeps_cons, keeps_none, objs_app0, objs_app, and_true]; first | rfl | exact ⟨rfl, rfl⟩ | exact ⟨rfl, rfl, rfl⟩))) | (refine both_ways ?_ ?_) | (rw [wrap_i64 (by omega) (by omega)]) | (refine guardV_split (fun h => ?_) (fun h => ?_) <;> (try rw [h]) <;> (try simp at h) <;> (try (exfalso; omega))) | (refine nth_get hx ?_) | (refine num_size hr ?_))
      refine later_intro ⟨i + 1, by omega, rfl, by omega, ?_, ?_, ?_, ?_⟩ <;> (try simp only [go_sem, t3, t6, t7, t8]) <;> (try rfl)
    · obtain rfl : i = l.length := by omega
      have hlt1 : ¬ ((l.length : Nat) : Int) < l.length := by omega
      rw [List.take_length] at t3
      repeat' (first | (simp -dsimp only [↓reduceIte, go_sem, t3, t6, t7, t8, hlt1]) | (refine arr_intro fun _ => ?_) | (refine later_intro ⟨keeps_nil, ?_⟩) | (refine later_intro ⟨keeps_refl, ?_⟩) | (with_reducible refine keeps_go ?_ ?_; focus (first | (simp [keeps_cons, keeps_none, objs_app, objs_app0]; done) | (simp only [keeps_cons, keeps_none, objs_app0, objs_app, and_true]; first | rfl | exact ⟨rfl, rfl⟩ | exact ⟨rfl, rfl, rfl⟩))) | (with_reducible refine (And.intro (a := keeps _ _ _) ?_ ?_); focus (first | (simp [keeps_cons, keeps_none, objs_app, objs_app0]; done) | (simp only [keeps_cons, keeps_none, objs_app0, objs_app, and_true]; first | rfl | exact ⟨rfl, rfl⟩ | exact ⟨rfl, rfl, rfl⟩))) | (refine both_ways ?_ ?_) | (rw [wrap_i64 (by omega) (by omega)]) | (refine guardV_split (fun h => ?_) (fun h => ?_) <;> (try rw [h]) <;> (try simp at h) <;> (try (exfalso; omega))))
      exact hK
theorem part_size {p : Part} (h : p.Ok) {σ : AST} {K : AV → AST → Prop} (hK : K (.int .i64 (p.len : Nat)) σ) : invokeW Try.prog (partV p) "affidavit/shape.size" [] σ K := by
  cases p with
  | num n => exact invoke_iface (f := 97) (by refine ⟨⟨_, _, rfl, rfl, rfl, rfl⟩, _, Try.underlying135, by intro e h; cases h⟩) (num_size h hK)
  | txt n => exact invoke_iface (f := 138) (by refine ⟨⟨_, _, rfl, rfl, rfl, rfl⟩, _, Try.underlying136, by intro e h; cases h⟩) (txt_size h hK)
  | sgn => exact invoke_iface (f := 139) (by refine ⟨⟨_, _, rfl, rfl, rfl, rfl⟩, _, Try.underlying138, by intro e h; cases h⟩) (sgn_size hK)
  | lst tk l => exact invoke_iface (f := 140) (by refine ⟨⟨_, _, rfl, rfl, rfl, rfl⟩, _, Try.underlying139, by intro e h; cases h⟩) (lst_size h.1 h.2 hK)
end Go.Aff.L10

