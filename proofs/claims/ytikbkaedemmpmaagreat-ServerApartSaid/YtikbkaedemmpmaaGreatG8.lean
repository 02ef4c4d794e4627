import Derived.Test.YtikbkaedemmpmaaGreatG7
import Derived.Test.YtikbkaedemmpmaaGreatProg
import Derived.Test.YtikbkaedemmpmaaGreatG6
import Derived.WalkKit
import Derived.ProofKit
import Derived.OpenShut
import Derived.ShutString
import Derived.ChangeOld
import Derived.Below
import Derived.SizedLaws
import Derived.Carry

set_option linter.unusedSimpArgs false
set_option linter.unusedVariables false

namespace Go.Aff

variable {P : Program} {σ σ' : AST} {ops : Array Oper} {τ : Env} {KE : Env → AST → Prop}

inductive Tf where
  | nil
  | op (i k : Nat) (r : Tf)
  | fork (e : Nat) (a b : Tf)
def Tf.tr : Tf → Tr
  | .nil => .nil
  | .op i _ r => .op i r.tr
  | .fork e a b => .fork e a.tr b.tr
def Tf.all : Tf → List Nat
  | .nil => []
  | .op i k r => if k = 1 ∨ k = 3 then i :: r.all else r.all
  | .fork _ a b => a.all ++ b.all
def Tf.effs : Tf → List Nat
  | .nil => []
  | .op i k r => if k = 1 then i :: r.all else r.effs
  | .fork _ a b => a.effs ++ b.effs
def seqT (P : Program) (ops : Array Oper) : Tf → List Nat → Env → AST → (Env → AST → Prop) → Prop
  | .nil, ks, τ, σ, K => K τ σ
  | .op i 1 r, ks, τ, σ, K => match gop ops i with
    | none => False
    | some o => stepW P ops o τ σ fun v σ' => keeps ks σ σ' ∧ seqT P ops r ks (τ.putO o.dst v) σ' K
  | .op i 0 r, ks, τ, σ, K => match gop ops i with
    | none => False
    | some o => stepW P ops o τ σ fun v σ' => σ' = σ ∧ seqT P ops r (reads (ev τ) o.op ++ ks) (τ.putO o.dst v) σ' K
  | .op i _ r, ks, τ, σ, K => match gop ops i with
    | none => False
    | some o => stepW P ops o τ σ fun v σ' => σ' = σ ∧ seqT P ops r ks (τ.putO o.dst v) σ' K
  | .fork _ a b, ks, τ, σ, K => seqT P ops a ks τ σ K ∧ seqT P ops b ks τ σ K

def flagsT (P : Program) (ops : Array Oper) : Tf → Bool
  | .nil => true
  | .op i k r => (match ops[i]? with
    | none => false
    | some o => effO P o == (k == 1 || k == 3)) && (k == 0 || k == 1 || k == 3 || r.effs.all fun y => ahead (anc ops) y i) && flagsT P ops r
  | .fork _ a b => flagsT P ops a && flagsT P ops b

def validT (P : Program) (ops : Array Oper) (x : Nat × Env × AV) (σ : AST) : Prop := ∀ o, ops[x.1]? = some o → (∀ t, lenOk (x.2.1 t)) ∧ effO P o = false ∧ stepW P ops o x.2.1 σ fun v' σ'' => v' = x.2.2 ∧ σ'' = σ
def pastT (P : Program) (ops : Array Oper) (ks : List Nat) (past : List (Nat × Env × AV)) (T : Tf) (σ : AST) : Prop :=
  ∀ x ∈ past, (validT P ops x σ ∧ ∀ o, ops[x.1]? = some o → ∀ k ∈ reads (ev x.2.1) o.op, k ∈ ks) ∨ (validT P ops x σ ∧ ∀ y ∈ T.effs, ahead (anc ops) y x.1 = true) ∨ (∀ y ∈ T.all, ahead (anc ops) y x.1 = true)

theorem seqT_pure (i k : Nat) (r : Tf) (ks : List Nat) (past : List (Nat × Env × AV)) (τ : Env) (σ : AST) (k0 : k ≠ 0) (k1 : k ≠ 1) (k3 : k ≠ 3)
    (ih : ∀ (past' : List (Nat × Env × AV)) (τ' : Env), flagsT P ops r = true → pastT P ops ks past' r σ → (∀ t, lenOk (τ' t)) → seqT P ops r ks τ' σ KE → awpT P ops r.tr past' τ' σ KE)
    (hf : flagsT P ops (.op i k r) = true) (hp : pastT P ops ks past (.op i k r) σ) (hlen : ∀ t, lenOk (τ t))
    (h : match gop ops i with
      | none => False
      | some o => stepW P ops o τ σ fun v σ' => σ' = σ ∧ seqT P ops r ks (τ.putO o.dst v) σ' KE) : awpT P ops (Tf.op i k r).tr past τ σ KE := by
  split at h
  · exact h.elim
  · rename_i o hk
    have hk : ops[i]? = some o := hk
    simp only [flagsT, hk, Bool.and_eq_true, beq_iff_eq] at hf
    have b0 : (k == 0) = false := by simpa using k0
    have b1 : (k == 1) = false := by simpa using k1
    have b3 : (k == 3) = false := by simpa using k3
    rw [b0, b1, b3] at hf
    have he : effO P o = false := by simpa using hf.1.1
    have hall : (r.effs.all fun y => ahead (anc ops) y i) = true := by simpa using hf.1.2
    rw [List.all_eq_true] at hall
    simp only [Tf.tr, awpT, hk, he, Bool.false_eq_true, if_false]
    obtain ⟨v, hv, hkk⟩ := stepW_det hlen he h
    refine hkk _ fun hlv => ih _ _ hf.2 ?_ hlv hv.2
    intro x hx
    rcases List.mem_cons.1 hx with rfl | hx
    · right; left
      refine ⟨fun o' ho' => ?_, hall⟩
      dsimp only at ho' ⊢
      rw [hk] at ho'; cases ho'
      exact ⟨hlen, he, hkk _ ⟨rfl, rfl⟩⟩
    · rcases hp x hx with ⟨h0, h1⟩ | ⟨h0, h1⟩ | h0
      · exact .inl ⟨h0, h1⟩
      · exact .inr (.inl ⟨h0, fun y hy => h1 y (by simpa [Tf.effs, k1] using hy)⟩)
      · exact .inr (.inr fun y hy => h0 y (by simpa [Tf.all, k1, k3] using hy))
theorem seqT_awpT : ∀ (T : Tf) (ks : List Nat) (past : List (Nat × Env × AV)) (τ : Env) (σ : AST), flagsT P ops T = true → pastT P ops ks past T σ → (∀ t, lenOk (τ t)) → seqT P ops T ks τ σ KE → awpT P ops T.tr past τ σ KE
  | .nil, ks, past, τ, σ, hf, hp, hlen, h => h
  | .fork e a b, ks, past, τ, σ, hf, hp, hlen, h => by
    simp only [flagsT, Bool.and_eq_true] at hf
    simp only [seqT] at h
    refine ⟨seqT_awpT a ks past τ σ hf.1 (fun x hx => ?_) hlen h.1, seqT_awpT b ks past τ σ hf.2 (fun x hx => ?_) hlen h.2⟩
    · rcases hp x hx with h | ⟨h1, h2⟩ | h
      · exact .inl h
      · exact .inr (.inl ⟨h1, fun y hy => h2 y (by simp [Tf.effs, hy])⟩)
      · exact .inr (.inr fun y hy => h y (by simp [Tf.all, hy]))
    · rcases hp x hx with h | ⟨h1, h2⟩ | h
      · exact .inl h
      · exact .inr (.inl ⟨h1, fun y hy => h2 y (by simp [Tf.effs, hy])⟩)
      · exact .inr (.inr fun y hy => h y (by simp [Tf.all, hy]))
  | .op i 1 r, ks, past, τ, σ, hf, hp, hlen, h => by
    simp only [seqT] at h
    split at h
    · exact h.elim
    · rename_i o hk
      have hk : ops[i]? = some o := hk
      simp only [flagsT, hk, Bool.and_eq_true, beq_iff_eq] at hf
      have he : effO P o = true := by simpa using hf.1.1
      simp only [Tf.tr, awpT, hk, he, if_true]
      refine stepW_mono (fun v σ' hh => ?_) h
      refine ⟨fun x hx hah o ho => ?_, fun hlv => seqT_awpT r ks past _ _ hf.2 ?_ hlv hh.2⟩
      · rcases hp x hx with ⟨h0, h3⟩ | ⟨_, h0⟩ | h0
        · obtain ⟨h1, h2, h4⟩ := h0 o ho
          exact step_same h1 h2 (fun k hk => hh.1 k (h3 o ho k hk)) h4
        · rw [h0 i (by simp [Tf.effs])] at hah; cases hah
        · rw [h0 i (by simp [Tf.all])] at hah; cases hah
      · intro x hx
        rcases hp x hx with ⟨h0, h3⟩ | ⟨_, h0⟩ | h0
        · left
          refine ⟨fun o ho => ?_, h3⟩
          obtain ⟨h1, h2, h4⟩ := h0 o ho
          exact ⟨h1, h2, step_same h1 h2 (fun k hk => hh.1 k (h3 o ho k hk)) h4⟩
        · right; right
          intro y hy; exact h0 y (by simp [Tf.effs, hy])
        · right; right
          intro y hy; exact h0 y (by simp [Tf.all, hy])
  | .op i 3 r, ks, past, τ, σ, hf, hp, hlen, h => by
    simp only [seqT] at h
    split at h
    · exact h.elim
    · rename_i o hk
      have hk : ops[i]? = some o := hk
      simp only [flagsT, hk, Bool.and_eq_true, beq_iff_eq] at hf
      have he : effO P o = true := by simpa using hf.1.1
      simp only [Tf.tr, awpT, hk, he, if_true]
      refine stepW_mono (fun v σ' hh => ?_) h
      obtain ⟨rfl, hh⟩ := hh
      refine ⟨fun x hx hah o ho => ?_, fun hlv => seqT_awpT r ks past _ _ hf.2 ?_ hlv hh⟩
      · rcases hp x hx with ⟨h0, h3⟩ | ⟨h0, _⟩ | h0
        · exact (h0 o ho).2.2
        · exact (h0 o ho).2.2
        · rw [h0 i (by simp [Tf.all])] at hah; cases hah
      · intro x hx
        rcases hp x hx with h0 | ⟨h0, h1⟩ | h0
        · exact .inl h0
        · exact .inr (.inl ⟨h0, fun y hy => h1 y (by simpa [Tf.effs] using hy)⟩)
        · exact .inr (.inr fun y hy => h0 y (by simp [Tf.all, hy]))
  | .op i 0 r, ks, past, τ, σ, hf, hp, hlen, h => by
    simp only [seqT] at h
    split at h
    · exact h.elim
    · rename_i o hk
      have hk : ops[i]? = some o := hk
      simp only [flagsT, hk, Bool.and_eq_true, beq_iff_eq] at hf
      have he : effO P o = false := by simpa using hf.1.1
      simp only [Tf.tr, awpT, hk, he, Bool.false_eq_true, if_false]
      obtain ⟨v, hv, hkk⟩ := stepW_det hlen he h
      refine hkk _ fun hlv => seqT_awpT r _ _ _ _ hf.2 ?_ hlv hv.2
      intro x hx
      rcases List.mem_cons.1 hx with rfl | hx
      · left
        refine ⟨fun o' ho' => ?_, fun o' ho' k hkr => ?_⟩
        · dsimp only at ho' ⊢
          rw [hk] at ho'; cases ho'
          exact ⟨hlen, he, hkk _ ⟨rfl, rfl⟩⟩
        · dsimp only at ho' hkr
          rw [hk] at ho'; cases ho'
          exact List.mem_append_left _ hkr
      · rcases hp x hx with ⟨h0, h1⟩ | ⟨h0, h1⟩ | h0
        · exact .inl ⟨h0, fun o' ho' k hkr => List.mem_append_right _ (h1 o' ho' k hkr)⟩
        · exact .inr (.inl ⟨h0, fun y hy => h1 y (by simpa [Tf.effs] using hy)⟩)
        · exact .inr (.inr fun y hy => h0 y (by simpa [Tf.all] using hy))
  | .op i 2 r, ks, past, τ, σ, hf, hp, hlen, h => seqT_pure i 2 r ks past τ σ (by decide) (by decide) (by decide) (fun past' K' h1 h2 h3 h4 => seqT_awpT r ks past' _ σ h1 h2 h3 h4) hf hp hlen (by simpa only [seqT] using h)
  | .op i (n + 4) r, ks, past, τ, σ, hf, hp, hlen, h => seqT_pure i (n + 4) r ks past τ σ (by omega) (by omega) (by omega) (fun past' K' h1 h2 h3 h4 => seqT_awpT r ks past' _ σ h1 h2 h3 h4) hf hp hlen (by simpa only [seqT] using h)

theorem awp_drawT {id : Nat} {ops : Array Oper} {Q : Exit → Env → AST → Prop} (T : Tf) (ho : (trOk P ops T.tr && flagsT P ops T) = true) (h : seqT P ops T [] τ σ (Q .normal)) : awp P (.region id ops true) Q τ σ := by
  rw [Bool.and_eq_true] at ho
  exact awp_drawTree _ ho.1 fun hlen => seqT_awpT T [] [] τ σ ho.2 (fun x hx => by simp at hx) hlen h

def seqT0 (P : Program) (ops : Array Oper) (o : Option Oper) (r : Tf) (ks : List Nat) (τ : Env) (σ : AST) (K : Env → AST → Prop) : Prop := match o with
  | none => False
  | some o => stepW P ops o τ σ fun v σ' => σ' = σ ∧ seqT P ops r (reads (ev τ) o.op ++ ks) (τ.putO o.dst v) σ' K
def seqT1 (P : Program) (ops : Array Oper) (o : Option Oper) (r : Tf) (ks : List Nat) (τ : Env) (σ : AST) (K : Env → AST → Prop) : Prop := match o with
  | none => False
  | some o => stepW P ops o τ σ fun v σ' => keeps ks σ σ' ∧ seqT P ops r ks (τ.putO o.dst v) σ' K
def seqT2 (P : Program) (ops : Array Oper) (o : Option Oper) (r : Tf) (ks : List Nat) (τ : Env) (σ : AST) (K : Env → AST → Prop) : Prop := match o with
  | none => False
  | some o => stepW P ops o τ σ fun v σ' => σ' = σ ∧ seqT P ops r ks (τ.putO o.dst v) σ' K
variable {ks : List Nat}
theorem seqT_nil : seqT P ops .nil ks τ σ KE = KE τ σ := nr rfl
theorem seqT_1 {i : Nat} {r : Tf} : seqT P ops (.op i 1 r) ks τ σ KE = seqT1 P ops (gop ops i) r ks τ σ KE := by simp only [seqT, seqT1]
theorem seqT_0 {i : Nat} {r : Tf} : seqT P ops (.op i 0 r) ks τ σ KE = seqT0 P ops (gop ops i) r ks τ σ KE := by simp only [seqT, seqT0]
theorem seqT_3 {i : Nat} {r : Tf} : seqT P ops (.op i 3 r) ks τ σ KE = seqT2 P ops (gop ops i) r ks τ σ KE := by simp only [seqT, seqT2]
theorem seqT_2 {i : Nat} {r : Tf} : seqT P ops (.op i 2 r) ks τ σ KE = seqT2 P ops (gop ops i) r ks τ σ KE := by simp only [seqT, seqT2]
structure Both (A B : Prop) : Prop where
  l : A
  r : B
theorem seqT_fork {e : Nat} {a b : Tf} : seqT P ops (.fork e a b) ks τ σ KE = Both (@Later ⟨seqT P ops a ks τ σ KE⟩) (@Later ⟨seqT P ops b ks τ σ KE⟩) := by
  simp only [seqT, Later, eq_iff_iff]
  exact ⟨fun h => ⟨h.1, h.2⟩, fun h => ⟨h.l, h.r⟩⟩
theorem both_ways {A B : Prop} (ha : A) (hb : B) : Both (@Later ⟨A⟩) (@Later ⟨B⟩) := ⟨ha, hb⟩
theorem seqT1_some {o : Oper} {r : Tf} : seqT1 P ops (some o) r ks τ σ KE = stepW P ops o τ σ (@Lam ⟨fun v σ' => @Later ⟨keeps ks σ σ' ∧ seqT P ops r ks (τ.putO o.dst v) σ' KE⟩⟩) := nr rfl
theorem seqT0_some {o : Oper} {r : Tf} : seqT0 P ops (some o) r ks τ σ KE = stepW P ops o τ σ (@Lam ⟨fun v σ' => σ' = σ ∧ @Later ⟨seqT P ops r (reads (ev τ) o.op ++ ks) (τ.putO o.dst v) σ' KE⟩⟩) := nr rfl
theorem seqT2_some {o : Oper} {r : Tf} : seqT2 P ops (some o) r ks τ σ KE = stepW P ops o τ σ (@Lam ⟨fun v σ' => σ' = σ ∧ @Later ⟨seqT P ops r ks (τ.putO o.dst v) σ' KE⟩⟩) := nr rfl
attribute [go_sem ↓] seqT_nil seqT_0 seqT_1 seqT_2 seqT_3 seqT_fork seqT0_some seqT1_some seqT2_some
end Go.Aff

namespace Go.Aff

variable {P : Program} {σ σ' : AST} {K : AV → AST → Prop} {KV : AV → Prop}

section
variable {dst : Option Nat} {ty : TypeId} {pos : String} {after : Array Edge} {gd : Option (Nat × Bool)} {ρ : Operand → AV}
theorem op_copy {x y : Operand} {ts : Array TypeId} : opW P ρ ⟨dst, .call ⟨.builtin .copy, #[x, y], ts⟩, ty, pos, after, gd⟩ σ K = copyW P ts (ρ x) (ρ y) σ K := nr rfl
end
def convA (o : Option AV) (K : AV → Prop) : Prop := match o with
  | some (.dig d) => K (.str d.l)
  | _ => False
theorem convA_dig {d : Dig} : convA (some (.dig d)) KV = KV (.str d.l) := nr rfl
theorem conv_arr {s d : TypeId} (hs : isSliceT P s = true) (he : P.underlying (elemT P s) = some (.int .u8)) (hd : P.underlying d = some .string) {i : Nat} {p : List Nat} : convW P s d (.arr i p 32) σ K = convA (cellAt σ i p) (At K σ) := by
  have hs := isSliceT_iff hs
  simp only [convW, cellAt]
  cases h : σ.objs[i]? with
  | none => simp [convA]
  | some o =>
    cases o with
    | cells v =>
      simp only [Option.bind_some, objCell]
      cases h2 : v.at p with
      | none => simp [convA]
      | some x =>
        cases x <;> simp only [convA]
        rename_i dg
        simp only [eq_iff_iff, true_and]
        constructor
        · rintro ⟨_, _, _, _, h⟩; exact h
        · intro h; exact ⟨_, hs, he, hd, h⟩
    | _ => simp [objCell, convA]
theorem copy_dig {t u e : TypeId} (hu : P.underlying t = some (.slice e)) (hc : P.cellsOf e = 1) (he : ∃ u, P.underlying e = some u) {i : Nat} {l : List UInt8} {dg : Dig} (ho : σ.objs[i]? = some (.cells (.dig dg))) (hl : l.length = 32)
    (hK : K (.int .i64 32) (σ.set i (.cells (.dig ⟨l, hl⟩)))) : copyW P ⟨[t, u]⟩ (.arr i [] 32) (.str l) σ K := by
  refine ⟨t, e, rfl, hu, hc, he, ?_⟩
  simp only [ho, at_nil]
  refine ⟨trivial, hl, by simp [setOk], ?_⟩
  simpa [AV.setAt] using hK
attribute [go_sem ↓] op_copy
attribute [go_sem] convA_dig
theorem bool_end {b c : Bool} (hK : K (.bool c) σ) (h : b = c) : K (.bool b) σ := h ▸ hK
theorem bool_endD {b : Bool} {Q : Prop} {d : Decidable Q} (hK : K (.bool (@decide Q d)) σ) (h : b = true ↔ Q) : K (.bool b) σ := by
  have : b = @decide Q d := by rw [Bool.eq_iff_iff, decide_eq_true_eq]; exact h
  exact this ▸ hK
theorem bool_endDX {s : AST} {b : Bool} {Q : Prop} {d : Decidable Q} (hx : Ext σ s) (hK : K (.bool (@decide Q d)) σ) (h : b = true ↔ Q) : Ext σ s ∧ (AV.bool b).noRef = true ∧ K (AV.bool b).strip σ := ⟨hx, rfl, by simpa [AV.strip] using bool_endD hK h⟩
theorem get_pred {α : Type} {l : List α} {i : Nat} {y : α} (h : l[i]? = some y) (h0 : 0 < i) : l[i - 1]? = some (l[i - 1]'(by have := (List.getElem?_eq_some_iff.1 h).1; omega)) := List.getElem?_eq_getElem _
theorem nth_pred {α : Type} {l : List α} {i : Nat} {y : α} {F : α → Prop} (h : l[i]? = some y) (h0 : 0 < i) (hF : F (l[i - 1]'(by have := (List.getElem?_eq_some_iff.1 h).1; omega))) : nthW l ((i : Int) - 1) (@LamA _ ⟨F⟩) := by
  rw [show (i : Int) - 1 = ((i - 1 : Nat) : Int) by omega]; exact nth_get (get_pred h h0) hF
theorem keeps_cons {k : Nat} {ks : List Nat} : keeps (k :: ks) σ σ' = (σ'.objs[k]? = σ.objs[k]? ∧ keeps ks σ σ') := by simp [keeps]
theorem keeps_go {ks : List Nat} {R : Prop} (h : keeps ks σ σ') (hR : R) : @Later ⟨keeps ks σ σ' ∧ R⟩ := ⟨h, hR⟩
theorem reads_pick {ρ : Operand → AV} {a b c : Operand} : reads ρ (.pick a b c) = [] := rfl
theorem reads_makeFunc {ρ : Operand → AV} {f : Fn} {a b : Array Operand} : reads ρ (.makeFunc f a b) = [] := rfl
theorem reads_makeInterface {ρ : Operand → AV} {t : TypeId} {x : Operand} : reads ρ (.makeInterface t x) = [] := rfl
attribute [go_sem] reads_pick reads_makeFunc reads_makeInterface
theorem get_of_lt {α : Type} {l : List α} {i : Nat} (h : i < l.length) : ∃ y, l[i]? = some y ∧ y ∈ l := ⟨l[i], List.getElem?_eq_getElem h, List.getElem_mem h⟩
end Go.Aff

namespace Go.Aff

variable {P : Program} {σ σ' : AST} {ops : Array Oper} {τ : Env} {KE : Env → AST → Prop}

inductive Tu where
  | nil
  | op (i k : Nat) (r : Tu)
  | fork (e : Nat) (a b : Tu)
  | cut (r : Tu)
def Tu.tr : Tu → Tr
  | .nil => .nil
  | .op i _ r => .op i r.tr
  | .fork e a b => .fork e a.tr b.tr
  | .cut r => r.tr
def Tu.all : Tu → List Nat
  | .nil => []
  | .op i k r => if k = 1 ∨ k = 3 then i :: r.all else r.all
  | .fork _ a b => a.all ++ b.all
  | .cut r => r.all
def Tu.effs : Tu → List Nat
  | .nil => []
  | .op i k r => if k = 1 then i :: r.all else r.effs
  | .fork _ a b => a.effs ++ b.effs
  | .cut r => r.effs
def seqU (P : Program) (ops : Array Oper) : Tu → List Nat → Env → AST → (Env → AST → Prop) → Prop
  | .nil, ks, τ, σ, K => K τ σ
  | .op i 1 r, ks, τ, σ, K => match gop ops i with
    | none => False
    | some o => stepW P ops o τ σ fun v σ' => keeps ks σ σ' ∧ seqU P ops r ks (τ.putO o.dst v) σ' K
  | .op i 0 r, ks, τ, σ, K => match gop ops i with
    | none => False
    | some o => stepW P ops o τ σ fun v σ' => σ' = σ ∧ seqU P ops r (reads (ev τ) o.op ++ ks) (τ.putO o.dst v) σ' K
  | .op i _ r, ks, τ, σ, K => match gop ops i with
    | none => False
    | some o => stepW P ops o τ σ fun v σ' => σ' = σ ∧ seqU P ops r ks (τ.putO o.dst v) σ' K
  | .fork _ a b, ks, τ, σ, K => seqU P ops a ks τ σ K ∧ seqU P ops b ks τ σ K
  | .cut r, ks, τ, σ, K => seqU P ops r [] τ σ K

def flagsU (P : Program) (ops : Array Oper) : Tu → List Nat → Bool
  | .nil, _ => true
  | .op i k r, zs => (match ops[i]? with
    | none => false
    | some o => effO P o == (k == 1 || k == 3)) && (k == 0 || k == 1 || k == 3 || r.effs.all fun y => ahead (anc ops) y i) && flagsU P ops r (if k = 0 then i :: zs else zs)
  | .fork _ a b, zs => flagsU P ops a zs && flagsU P ops b zs
  | .cut r, zs => (zs.all fun z => r.effs.all fun y => ahead (anc ops) y z) && flagsU P ops r []

def pastU (P : Program) (ops : Array Oper) (ks zs : List Nat) (past : List (Nat × Env × AV)) (T : Tu) (σ : AST) : Prop :=
  ∀ x ∈ past, (validT P ops x σ ∧ x.1 ∈ zs ∧ ∀ o, ops[x.1]? = some o → ∀ k ∈ reads (ev x.2.1) o.op, k ∈ ks) ∨ (validT P ops x σ ∧ ∀ y ∈ T.effs, ahead (anc ops) y x.1 = true) ∨ (∀ y ∈ T.all, ahead (anc ops) y x.1 = true)

theorem seqU_pure (i k : Nat) (r : Tu) (ks zs : List Nat) (past : List (Nat × Env × AV)) (τ : Env) (σ : AST) (k0 : k ≠ 0) (k1 : k ≠ 1) (k3 : k ≠ 3)
    (ih : ∀ (past' : List (Nat × Env × AV)) (τ' : Env), flagsU P ops r zs = true → pastU P ops ks zs past' r σ → (∀ t, lenOk (τ' t)) → seqU P ops r ks τ' σ KE → awpT P ops r.tr past' τ' σ KE)
    (hf : flagsU P ops (.op i k r) zs = true) (hp : pastU P ops ks zs past (.op i k r) σ) (hlen : ∀ t, lenOk (τ t))
    (h : match gop ops i with
      | none => False
      | some o => stepW P ops o τ σ fun v σ' => σ' = σ ∧ seqU P ops r ks (τ.putO o.dst v) σ' KE) : awpT P ops (Tu.op i k r).tr past τ σ KE := by
  split at h
  · exact h.elim
  · rename_i o hk
    have hk : ops[i]? = some o := hk
    simp only [flagsU, hk, Bool.and_eq_true, beq_iff_eq] at hf
    have b0 : (k == 0) = false := by simpa using k0
    have b1 : (k == 1) = false := by simpa using k1
    have b3 : (k == 3) = false := by simpa using k3
    rw [b0, b1, b3, if_neg k0] at hf
    have he : effO P o = false := by simpa using hf.1.1
    have hall : (r.effs.all fun y => ahead (anc ops) y i) = true := by simpa using hf.1.2
    rw [List.all_eq_true] at hall
    simp only [Tu.tr, awpT, hk, he, Bool.false_eq_true, if_false]
    obtain ⟨v, hv, hkk⟩ := stepW_det hlen he h
    refine hkk _ fun hlv => ih _ _ hf.2 ?_ hlv hv.2
    intro x hx
    rcases List.mem_cons.1 hx with rfl | hx
    · right; left
      refine ⟨fun o' ho' => ?_, hall⟩
      dsimp only at ho' ⊢
      rw [hk] at ho'; cases ho'
      exact ⟨hlen, he, hkk _ ⟨rfl, rfl⟩⟩
    · rcases hp x hx with ⟨h0, h1⟩ | ⟨h0, h1⟩ | h0
      · exact .inl ⟨h0, h1⟩
      · exact .inr (.inl ⟨h0, fun y hy => h1 y (by simpa [Tu.effs, k1] using hy)⟩)
      · exact .inr (.inr fun y hy => h0 y (by simpa [Tu.all, k1, k3] using hy))
theorem seqU_awpT : ∀ (T : Tu) (ks zs : List Nat) (past : List (Nat × Env × AV)) (τ : Env) (σ : AST), flagsU P ops T zs = true → pastU P ops ks zs past T σ → (∀ t, lenOk (τ t)) → seqU P ops T ks τ σ KE → awpT P ops T.tr past τ σ KE
  | .nil, ks, zs, past, τ, σ, hf, hp, hlen, h => h
  | .fork e a b, ks, zs, past, τ, σ, hf, hp, hlen, h => by
    simp only [flagsU, Bool.and_eq_true] at hf
    simp only [seqU] at h
    refine ⟨seqU_awpT a ks zs past τ σ hf.1 (fun x hx => ?_) hlen h.1, seqU_awpT b ks zs past τ σ hf.2 (fun x hx => ?_) hlen h.2⟩
    · rcases hp x hx with h | ⟨h1, h2⟩ | h
      · exact .inl h
      · exact .inr (.inl ⟨h1, fun y hy => h2 y (by simp [Tu.effs, hy])⟩)
      · exact .inr (.inr fun y hy => h y (by simp [Tu.all, hy]))
    · rcases hp x hx with h | ⟨h1, h2⟩ | h
      · exact .inl h
      · exact .inr (.inl ⟨h1, fun y hy => h2 y (by simp [Tu.effs, hy])⟩)
      · exact .inr (.inr fun y hy => h y (by simp [Tu.all, hy]))
  | .cut r, ks, zs, past, τ, σ, hf, hp, hlen, h => by
    simp only [flagsU, Bool.and_eq_true, List.all_eq_true] at hf
    simp only [seqU] at h
    refine seqU_awpT r [] [] past τ σ hf.2 (fun x hx => ?_) hlen h
    rcases hp x hx with ⟨h0, hz, _⟩ | ⟨h0, h1⟩ | h0
    · exact .inr (.inl ⟨h0, fun y hy => hf.1 x.1 hz y hy⟩)
    · exact .inr (.inl ⟨h0, fun y hy => h1 y (by simpa [Tu.effs] using hy)⟩)
    · exact .inr (.inr fun y hy => h0 y (by simpa [Tu.all] using hy))
  | .op i 1 r, ks, zs, past, τ, σ, hf, hp, hlen, h => by
    simp only [seqU] at h
    split at h
    · exact h.elim
    · rename_i o hk
      have hk : ops[i]? = some o := hk
      simp only [flagsU, hk, Bool.and_eq_true, beq_iff_eq] at hf
      have he : effO P o = true := by simpa using hf.1.1
      simp only [Tu.tr, awpT, hk, he, if_true]
      refine stepW_mono (fun v σ' hh => ?_) h
      refine ⟨fun x hx hah o ho => ?_, fun hlv => seqU_awpT r ks zs past _ _ (by simpa using hf.2) ?_ hlv hh.2⟩
      · rcases hp x hx with ⟨h0, hz, h3⟩ | ⟨_, h0⟩ | h0
        · obtain ⟨h1, h2, h4⟩ := h0 o ho
          exact step_same h1 h2 (fun k hk => hh.1 k (h3 o ho k hk)) h4
        · rw [h0 i (by simp [Tu.effs])] at hah; cases hah
        · rw [h0 i (by simp [Tu.all])] at hah; cases hah
      · intro x hx
        rcases hp x hx with ⟨h0, hz, h3⟩ | ⟨_, h0⟩ | h0
        · left
          refine ⟨fun o ho => ?_, hz, h3⟩
          obtain ⟨h1, h2, h4⟩ := h0 o ho
          exact ⟨h1, h2, step_same h1 h2 (fun k hk => hh.1 k (h3 o ho k hk)) h4⟩
        · right; right
          intro y hy; exact h0 y (by simp [Tu.effs, hy])
        · right; right
          intro y hy; exact h0 y (by simp [Tu.all, hy])
  | .op i 3 r, ks, zs, past, τ, σ, hf, hp, hlen, h => by
    simp only [seqU] at h
    split at h
    · exact h.elim
    · rename_i o hk
      have hk : ops[i]? = some o := hk
      simp only [flagsU, hk, Bool.and_eq_true, beq_iff_eq] at hf
      have he : effO P o = true := by simpa using hf.1.1
      simp only [Tu.tr, awpT, hk, he, if_true]
      refine stepW_mono (fun v σ' hh => ?_) h
      obtain ⟨rfl, hh⟩ := hh
      refine ⟨fun x hx hah o ho => ?_, fun hlv => seqU_awpT r ks zs past _ _ (by simpa using hf.2) ?_ hlv hh⟩
      · rcases hp x hx with ⟨h0, h3⟩ | ⟨h0, _⟩ | h0
        · exact (h0 o ho).2.2
        · exact (h0 o ho).2.2
        · rw [h0 i (by simp [Tu.all])] at hah; cases hah
      · intro x hx
        rcases hp x hx with h0 | ⟨h0, h1⟩ | h0
        · exact .inl h0
        · exact .inr (.inl ⟨h0, fun y hy => h1 y (by simpa [Tu.effs] using hy)⟩)
        · exact .inr (.inr fun y hy => h0 y (by simp [Tu.all, hy]))
  | .op i 0 r, ks, zs, past, τ, σ, hf, hp, hlen, h => by
    simp only [seqU] at h
    split at h
    · exact h.elim
    · rename_i o hk
      have hk : ops[i]? = some o := hk
      simp only [flagsU, hk, Bool.and_eq_true, beq_iff_eq] at hf
      have he : effO P o = false := by simpa using hf.1.1
      simp only [Tu.tr, awpT, hk, he, Bool.false_eq_true, if_false]
      obtain ⟨v, hv, hkk⟩ := stepW_det hlen he h
      refine hkk _ fun hlv => seqU_awpT r _ (i :: zs) _ _ _ (by simpa using hf.2) ?_ hlv hv.2
      intro x hx
      rcases List.mem_cons.1 hx with rfl | hx
      · left
        refine ⟨fun o' ho' => ?_, List.mem_cons_self .., fun o' ho' k hkr => ?_⟩
        · dsimp only at ho' ⊢
          rw [hk] at ho'; cases ho'
          exact ⟨hlen, he, hkk _ ⟨rfl, rfl⟩⟩
        · dsimp only at ho' hkr
          rw [hk] at ho'; cases ho'
          exact List.mem_append_left _ hkr
      · rcases hp x hx with ⟨h0, hz, h1⟩ | ⟨h0, h1⟩ | h0
        · exact .inl ⟨h0, List.mem_cons_of_mem _ hz, fun o' ho' k hkr => List.mem_append_right _ (h1 o' ho' k hkr)⟩
        · exact .inr (.inl ⟨h0, fun y hy => h1 y (by simpa [Tu.effs] using hy)⟩)
        · exact .inr (.inr fun y hy => h0 y (by simpa [Tu.all] using hy))
  | .op i 2 r, ks, zs, past, τ, σ, hf, hp, hlen, h => seqU_pure i 2 r ks zs past τ σ (by decide) (by decide) (by decide) (fun past' K' h1 h2 h3 h4 => seqU_awpT r ks zs past' _ σ h1 h2 h3 h4) hf hp hlen (by simpa only [seqU] using h)
  | .op i (n + 4) r, ks, zs, past, τ, σ, hf, hp, hlen, h => seqU_pure i (n + 4) r ks zs past τ σ (by omega) (by omega) (by omega) (fun past' K' h1 h2 h3 h4 => seqU_awpT r ks zs past' _ σ h1 h2 h3 h4) hf hp hlen (by simpa only [seqU] using h)

theorem awp_drawU {id : Nat} {ops : Array Oper} {Q : Exit → Env → AST → Prop} (T : Tu) (ho : (trOk P ops T.tr && flagsU P ops T []) = true) (h : seqU P ops T [] τ σ (Q .normal)) : awp P (.region id ops true) Q τ σ := by
  rw [Bool.and_eq_true] at ho
  exact awp_drawTree _ ho.1 fun hlen => seqU_awpT T [] [] [] τ σ ho.2 (fun x hx => by simp at hx) hlen h

def seqU0 (P : Program) (ops : Array Oper) (o : Option Oper) (r : Tu) (ks : List Nat) (τ : Env) (σ : AST) (K : Env → AST → Prop) : Prop := match o with
  | none => False
  | some o => stepW P ops o τ σ fun v σ' => σ' = σ ∧ seqU P ops r (reads (ev τ) o.op ++ ks) (τ.putO o.dst v) σ' K
def seqU1 (P : Program) (ops : Array Oper) (o : Option Oper) (r : Tu) (ks : List Nat) (τ : Env) (σ : AST) (K : Env → AST → Prop) : Prop := match o with
  | none => False
  | some o => stepW P ops o τ σ fun v σ' => keeps ks σ σ' ∧ seqU P ops r ks (τ.putO o.dst v) σ' K
def seqU2 (P : Program) (ops : Array Oper) (o : Option Oper) (r : Tu) (ks : List Nat) (τ : Env) (σ : AST) (K : Env → AST → Prop) : Prop := match o with
  | none => False
  | some o => stepW P ops o τ σ fun v σ' => σ' = σ ∧ seqU P ops r ks (τ.putO o.dst v) σ' K
variable {ks : List Nat}
theorem seqU_nil : seqU P ops .nil ks τ σ KE = KE τ σ := nr rfl
theorem seqU_1 {i : Nat} {r : Tu} : seqU P ops (.op i 1 r) ks τ σ KE = seqU1 P ops (gop ops i) r ks τ σ KE := by simp only [seqU, seqU1]
theorem seqU_0 {i : Nat} {r : Tu} : seqU P ops (.op i 0 r) ks τ σ KE = seqU0 P ops (gop ops i) r ks τ σ KE := by simp only [seqU, seqU0]
theorem seqU_3 {i : Nat} {r : Tu} : seqU P ops (.op i 3 r) ks τ σ KE = seqU2 P ops (gop ops i) r ks τ σ KE := by simp only [seqU, seqU2]
theorem seqU_2 {i : Nat} {r : Tu} : seqU P ops (.op i 2 r) ks τ σ KE = seqU2 P ops (gop ops i) r ks τ σ KE := by simp only [seqU, seqU2]
theorem seqU_cut {r : Tu} : seqU P ops (.cut r) ks τ σ KE = seqU P ops r [] τ σ KE := by simp only [seqU]
theorem seqU_fork {e : Nat} {a b : Tu} : seqU P ops (.fork e a b) ks τ σ KE = Both (@Later ⟨seqU P ops a ks τ σ KE⟩) (@Later ⟨seqU P ops b ks τ σ KE⟩) := by
  simp only [seqU, Later, eq_iff_iff]
  exact ⟨fun h => ⟨h.1, h.2⟩, fun h => ⟨h.l, h.r⟩⟩
theorem seqU1_some {o : Oper} {r : Tu} : seqU1 P ops (some o) r ks τ σ KE = stepW P ops o τ σ (@Lam ⟨fun v σ' => @Later ⟨keeps ks σ σ' ∧ seqU P ops r ks (τ.putO o.dst v) σ' KE⟩⟩) := nr rfl
theorem seqU0_some {o : Oper} {r : Tu} : seqU0 P ops (some o) r ks τ σ KE = stepW P ops o τ σ (@Lam ⟨fun v σ' => σ' = σ ∧ @Later ⟨seqU P ops r (reads (ev τ) o.op ++ ks) (τ.putO o.dst v) σ' KE⟩⟩) := nr rfl
theorem seqU2_some {o : Oper} {r : Tu} : seqU2 P ops (some o) r ks τ σ KE = stepW P ops o τ σ (@Lam ⟨fun v σ' => σ' = σ ∧ @Later ⟨seqU P ops r ks (τ.putO o.dst v) σ' KE⟩⟩) := nr rfl
attribute [go_sem ↓] seqU_nil seqU_0 seqU_1 seqU_2 seqU_3 seqU_fork seqU_cut seqU0_some seqU1_some seqU2_some
end Go.Aff

namespace Go.Aff

variable {P : Program} {σ : AST} {ρ : Operand → AV} {K : AV → AST → Prop} {dst : Option Tmp} {ty : TypeId} {pos : String} {after : Array Edge} {gd : Option (Nat × Bool)}
theorem op_lookup {t : TypeId} {x k : Operand} {ok : Bool} : opW P ρ ⟨dst, .lookup t x k ok, ty, pos, after, gd⟩ σ K = lookupW P σ t (ρ x) (ρ k) ok (At K σ) := nr rfl
theorem op_mapUpdate {t : TypeId} {m k v : Operand} : opW P ρ ⟨dst, .mapUpdate t m k v, ty, pos, after, gd⟩ σ K = mapUpdateW P σ t (ρ m) (ρ k) (ρ v) (AtS K .undef) := nr rfl
theorem op_mapEntry {t : TypeId} {m k : Operand} : opW P ρ ⟨dst, .mapEntry t m k, ty, pos, after, gd⟩ σ K = mapEntryW P σ t (ρ m) (ρ k) K := nr rfl
theorem op_entryStore {t : TypeId} {m st v : Operand} : opW P ρ ⟨dst, .entryStore t m st v, ty, pos, after, gd⟩ σ K = entryStoreW σ (ρ m) (ρ st) (ρ v) (AtS K .undef) := nr rfl
theorem op_makeMap {t : TypeId} : opW P ρ ⟨dst, .makeMap t none, ty, pos, after, gd⟩ σ K = K (.mp (some σ.objs.length)) (σ.push (.map [] 0)) := nr rfl
theorem op_makeSlice {t : TypeId} {n c : Operand} : opW P ρ ⟨dst, .makeSlice t n c, ty, pos, after, gd⟩ σ K = makeSliceW P t (ρ n) (ρ c) σ K := nr rfl
theorem op_delete {s x : Operand} {ts : Array TypeId} : opW P ρ ⟨dst, .call ⟨.builtin .delete, #[s, x], ts⟩, ty, pos, after, gd⟩ σ K = deleteW P ts (ρ s) (ρ x) σ (AtS K (.tuple [])) := nr rfl
theorem op_clear {s : Operand} {ts : Array TypeId} : opW P ρ ⟨dst, .call ⟨.builtin .clear, #[s], ts⟩, ty, pos, after, gd⟩ σ K = clearW P ts (ρ s) σ (AtS K (.tuple [])) := nr rfl
theorem op_range {t : TypeId} {x : Operand} : opW P ρ ⟨dst, .range t x, ty, pos, after, gd⟩ σ K = rangeW P σ t (ρ x) K := nr rfl
theorem op_next {x : Operand} {s : Bool} : opW P ρ ⟨dst, .next x s, ty, pos, after, gd⟩ σ K = nextW σ (ρ x) s K := nr rfl
theorem op_entry {x : Operand} : opW P ρ ⟨dst, .entry x, ty, pos, after, gd⟩ σ K = entryW σ (ρ x) (At K σ) := nr rfl
attribute [go_sem ↓] op_range op_next op_entry op_lookup op_mapUpdate op_mapEntry op_entryStore op_makeMap op_makeSlice op_delete op_clear
end Go.Aff

namespace Go.Aff.L09

def isC (c : Int) (b : UInt8) : Bool := decide ((b.toNat : Int) = c)
def cnt (c : Int) (h : List UInt8) : Nat := h.countP (isC c)
def placeL (c n : Int) : List UInt8 → Nat → Nat → Int
  | [], _, _ => -1
  | b :: r, i, k => if isC c b = true then (if ((k + 1 : Nat) : Int) = n then (i : Int) else placeL c n r (i + 1) (k + 1)) else placeL c n r (i + 1) k
def place (h : List UInt8) (c n : Int) : Int := placeL c n h 0 0
def right (h : List UInt8) (n : Int) : Bool := h.all (fun b => decide ((b.toNat : Int) < n)) && decide (h.length ≤ 512 ∧ 1 ≤ n ∧ n ≤ 256)
theorem cnt_le {c : Int} {h : List UInt8} : cnt c h ≤ h.length := List.countP_le_length
theorem cnt_append {c : Int} {a b : List UInt8} : cnt c (a ++ b) = cnt c a + cnt c b := List.countP_append
theorem cnt_take {c : Int} {h : List UInt8} {i : Nat} {b : UInt8} (hb : h[i]? = some b) : cnt c (h.take (i + 1)) = cnt c (h.take i) + if isC c b = true then 1 else 0 := by
  rw [List.take_add_one, hb, cnt_append]
  simp only [Option.toList_some, cnt, List.countP_cons, List.countP_nil, Nat.zero_add]
theorem cnt_take_le {c : Int} {h : List UInt8} {i : Nat} : cnt c (h.take i) ≤ i := by
  have := cnt_le (c := c) (h := h.take i); simp at this; omega
theorem isC_self {b : UInt8} : isC (b.toNat : Int) b = true := by simp [isC]
theorem isC_other {a b : UInt8} (h : a ≠ b) : isC (a.toNat : Int) b = false := by
  simp only [isC, decide_eq_false_iff_not]
  intro e
  apply h
  have : b.toNat = a.toNat := by omega
  exact (UInt8.toNat_inj.1 this).symm
end Go.Aff.L09

namespace Go.Aff.L09
open Go.Proofs Go.Aff
set_option maxRecDepth 20000
theorem mixed : Tryz.prog.follows .mixedOrders = true := rfl
theorem agg3 : aggT Tryz.prog 3 = some false := by kernel_rfl
theorem cells3 : Tryz.prog.cellsOf 3 = 1 := by kernel_rfl
theorem agg5 : aggT Tryz.prog 5 = some false := by kernel_rfl
theorem agg9 : aggT Tryz.prog 9 = some false := by kernel_rfl
theorem cells9 : Tryz.prog.cellsOf 9 = 1 := by kernel_rfl
theorem fits3 {v : AV} : fits Tryz.prog 3 v = (v.isAgg = false ∧ v.size = 1) := fits_leaf agg3 cells3
theorem fits9 {v : AV} : fits Tryz.prog 9 v = (v.isAgg = false ∧ v.size = 1) := fits_leaf agg9 cells9
attribute [local go_sem] Tryz.underlying3 Tryz.underlying5 Tryz.underlying9 Tryz.underlying211 fits3 fits9

theorem zero42 : zeroA Tryz.prog 12 211 = .agg ((List.replicate 256 (0 : Int)).map (AV.int .i64)) := by kernel_rfl
theorem zeroOf42 : ZeroOf Tryz.prog 211 (zeroA Tryz.prog 12 211) := by
  rw [zero42]
  exact ⟨_, _, rfl, rfl, by kernel_rfl, rfl, by kernel_rfl⟩

theorem next_c {b : UInt8} {j : Nat} {xs : List Int} {x : Int} {σ : AST} {K : AV → AST → Prop} (hl : xs.length = 256) (ho : σ.objs[j]? = some (.cells (.agg (xs.map (AV.int .i64))))) (hx : xs[b.toNat]? = some x) (h0 : 0 ≤ x) (h1 : x < 9223372036854775807)
    (hK : K (.int .i64 (x + 1)) (σ.set j (.cells (.agg ((xs.set b.toNat (x + 1)).map (AV.int .i64)))))) : TCalls Tryz.prog 142 [.int .u8 b.toNat, .ptr (some (j, []))] σ K := by
  refine tcalls_walk Tryz.f142 _ [.tmp 3] Tryz.func142 rfl rfl rfl mixed (Nat.le_of_ble_eq_true rfl) rfl fun hlen => ?_
  simp -dsimp only [↓reduceIte, go_sem]
  have hj : j < σ.objs.length := (List.getElem?_eq_some_iff.1 ho).1
  have hb : b.toNat < 256 := b.toNat_lt
  have ho2 : (σ.set j (.cells (.agg ((xs.set b.toNat (x + 1)).map (AV.int .i64))))).objs[j]? = some (.cells (.agg ((xs.set b.toNat (x + 1)).map (AV.int .i64)))) := by simp [AST.set, hj]
  have hx2 : (xs.set b.toNat (x + 1))[b.toNat]? = some (x + 1) := by simp [hl, hb]
  refine indexAddr_ptr Tryz.underlying211 Tryz.underlying3 cells3 hl ho hx ?_
  simp -dsimp only [↓reduceIte, go_sem]
  rw [cellAt_int ho hx]
  simp -dsimp only [↓reduceIte, go_sem]
  rw [wrap_i64 (by omega) (by omega)]
  refine indexAddr_ptr Tryz.underlying211 Tryz.underlying3 cells3 hl ho hx ?_
  simp -dsimp only [↓reduceIte, go_sem]
  refine storeC_int ho hx (by simp only [go_sem]) ?_
  simp -dsimp only [↓reduceIte, go_sem]
  refine indexAddr_ptr Tryz.underlying211 Tryz.underlying3 cells3 (by simp [hl]) ho2 hx2 ?_
  simp -dsimp only [↓reduceIte, go_sem]
  rw [cellAt_int ho2 hx2]
  simp -dsimp only [↓reduceIte, go_sem]
  exact hK

theorem ops1_c {h : List UInt8} {l ih N : Nat} {σ : AST} {K : AV → AST → Prop} (I J : Nat → AST → Prop) (hlh : h.length ≤ 9223372036854775807)
    (hI : ∀ i s, I i s → s.objs.length = N ∧ s.objs[ih]? = some (.cells (.str h)))
    (hJ : ∀ i s, J i s → s.objs.length = N ∧ s.objs[ih]? = some (.cells (.str h)))
    (hY : ∀ i b s o, h[i]? = some b → I i s → YCalls Tryz.prog l [.int .i64 b.toNat, .int .i64 (cnt b.toNat (h.take (i + 1)))] (s.app [o]) fun v σ' => ∃ s', σ' = s'.app [o] ∧ ((v = .bool true ∧ I (i + 1) s') ∨ (v = .bool false ∧ J i s')))
    (h0 : I 0 σ) (hend : ∀ s o, I h.length s → K (.tuple []) (s.app [o])) (hstop : ∀ i s o, i < h.length → J i s → K (.tuple []) (s.app [o])) :
    TCalls Tryz.prog 141 [.fn (.yield l) [] [], .ptr (some (ih, []))] σ K := by
  refine tcalls_walk Tryz.f141 _ [] Tryz.func141 rfl rfl rfl mixed (Nat.le_of_ble_eq_true rfl) rfl fun hlen => ?_
  have hlt : ∀ {i s}, I i s → ih < s.objs.length := fun {i s} h => (List.getElem?_eq_some_iff.1 (hI i s h).2).1
  have hcell : ∀ {i s o}, I i s → cellAt (s.app [o]) ih [] = some (.str h) := fun {i s o} hh => by
    simp only [cellAt, AST.app, List.getElem?_append_left (hlt hh), (hI i s hh).2, Option.bind_some, objCell, AV.at]
  simp -dsimp only [↓reduceIte, go_sem]
  refine ⟨zeroOf42, later_intro ?_⟩
  simp -dsimp only [↓reduceIte, go_sem]
  refine ⟨by intro x hx; simp only [List.mem_singleton] at hx; subst hx; simp only [go_sem], later_intro ?_⟩
  rw [zero42, push_app, (hI 0 σ h0).1]
  simp -dsimp only [↓reduceIte, go_sem]
  rw [hcell h0]
  simp -dsimp only [↓reduceIte, go_sem]
  refine arr_intro fun _ => ?_
  simp -dsimp only [↓reduceIte, go_sem]
  refine awp_rounds (fun (i : Nat) τ s' => ∃ (s : AST) (cs : List Int), s' = s.app [.cells (.agg (cs.map (AV.int .i64)))] ∧ I i s ∧ i ≤ h.length ∧ cs.length = 256 ∧ (∀ b : UInt8, cs[b.toNat]? = some ((cnt b.toNat (h.take i) : Nat) : Int)) ∧
    τ 0 = .fn (.yield l) [] [] ∧ τ 1 = .ptr (some (ih, [])) ∧ τ 4 = .fn (.func 142) [] [.ptr (some (N, []))] ∧ τ 8 = .int .i64 h.length ∧ τ 9 = .int .i64 i) (fun i => h.length - i) 0 ?_ ?_
  · refine ⟨σ, _, rfl, h0, by omega, List.length_replicate, fun b => ?_, ?_, ?_, ?_, ?_, ?_⟩ <;> try (simp only [go_sem] <;> rfl)
    have := b.toNat_lt
    rw [List.getElem?_replicate, if_pos this]; simp [cnt]
  · rintro i τ s' ⟨s, cs, rfl, hs, hi, hcl, hcs, t0, t1, t4, t8, t9⟩
    have hN := (hI i s hs).1
    simp -dsimp only [↓reduceIte, go_sem, t0, t1, t4, t8, t9]
    refine boolW_split (fun h1 => ?_) (fun h1 => ?_)
    · have h1 : i < h.length := by simp at h1; omega
      obtain ⟨b, hb⟩ := get_lt h1
      have hc := cnt_take (c := (b.toNat : Int)) hb
      rw [if_pos isC_self] at hc
      have hcle := cnt_take_le (c := (b.toNat : Int)) (h := h) (i := i)
      simp -dsimp only [↓reduceIte, go_sem, t0, t1, t4, t8, t9]
      refine awp_drawE [(0, false), (1, false), (2, false), (3, false), (4, false), (5, false), (6, false), (7, false), (8, false), (9, true), (10, true), (11, false)] (by kernel_rfl) ?_
      simp -dsimp only [↓reduceIte, go_sem, t0, t1, t4, t8, t9, hcell hs]
      refine nth_get hb ?_
      simp -dsimp only [↓reduceIte, go_sem, t0, t1, t4, t8, t9, hcell hs]
      refine nth_get hb ?_
      simp -dsimp only [↓reduceIte, go_sem, t0, t1, t4, t8, t9, hcell hs]
      refine next_c hcl (by rw [← hN, objs_app0]; rfl) (hcs b) (by omega) (by omega) ?_
      simp -dsimp only [↓reduceIte, go_sem, t0, t1, t4, t8, t9, hcell hs]
      have hst : (s.app [AObj.cells (.agg (cs.map (AV.int .i64)))]).set N (.cells (.agg ((cs.set b.toNat (((cnt b.toNat (h.take i) : Nat) : Int) + 1)).map (AV.int .i64)))) = s.app [.cells (.agg ((cs.set b.toNat (((cnt b.toNat (h.take i) : Nat) : Int) + 1)).map (AV.int .i64)))] := by
        rw [← hN, set_app0]; rfl
      rw [hst]
      have hk : ∀ (a b : AObj), keeps [ih, ih] (s.app [a]) (s.app [b]) := fun a b k hk => by
        have : k = ih := by simpa using hk
        subst this
        simp only [AST.app, List.getElem?_append_left (hlt hs)]
      refine ⟨hk _ _, ?_⟩
      simp -dsimp only [↓reduceIte, go_sem, t0, t1, t4, t8, t9, hcell hs]
      rw [show (((cnt b.toNat (h.take i) : Nat) : Int) + 1) = ((cnt b.toNat (h.take (i + 1)) : Nat) : Int) by rw [hc]; rfl]
      have hbt := b.toNat_lt
      rw [wrap_i64 (n := (b.toNat : Int)) (by omega) (by omega)]
      refine (hY i b s _ hb hs).mono ?_
      rintro v _ ⟨s', rfl, hv⟩
      have hcs' : ∀ a : UInt8, (cs.set b.toNat ((cnt b.toNat (h.take (i + 1)) : Nat) : Int))[a.toNat]? = some ((cnt a.toNat (h.take (i + 1)) : Nat) : Int) := fun a => by
        by_cases hab : a = b
        · subst hab; rw [List.getElem?_set_self (by omega)]
        · have hne : b.toNat ≠ a.toNat := fun e => hab (UInt8.toNat_inj.1 e).symm
          rw [List.getElem?_set_ne hne, hcs a, cnt_take (c := (a.toNat : Int)) hb, isC_other hab]; simp
      have hk2 : s'.objs[ih]? = some (.cells (.str h)) → ∀ (a b : AObj), keeps [ih, ih] (s.app [a]) (s'.app [b]) := fun h2 a b k hk => by
        have : k = ih := by simpa using hk
        subst this
        have := (List.getElem?_eq_some_iff.1 h2).1
        simp only [AST.app, List.getElem?_append_left (hlt hs), List.getElem?_append_left this, (hI i s hs).2, h2]
      rcases hv with ⟨rfl, hs'⟩ | ⟨rfl, hs'⟩
      · refine ⟨hk2 (hI _ _ hs').2 _ _, ?_⟩
        simp -dsimp only [↓reduceIte, go_sem, t0, t1, t4, t8, t9]
        rw [wrap_i64 (by omega) (by omega)]
        refine later_intro ⟨i + 1, by omega, s', _, rfl, hs', by omega, by simpa using hcl, hcs', ?_, ?_, ?_, ?_, ?_⟩ <;> (try simp only [go_sem, t0, t1, t4, t8, t9]) <;> rfl
      · refine ⟨hk2 (hJ _ _ hs').2 _ _, ?_⟩
        simp -dsimp only [↓reduceIte, go_sem, t0, t1, t4, t8, t9]
        exact hstop i s' _ h1 hs'
    · have h1 : i = h.length := by simp at h1; omega
      subst h1
      simp -dsimp only [↓reduceIte, go_sem, t0, t1, t4, t8, t9]
      exact hend s _ hs
end Go.Aff.L09

namespace Go.Aff.L09
open Go.Proofs Go.Aff
set_option maxRecDepth 20000
attribute [local go_sem] fits3 push_app app_app length_app cellAt_app cellAt_app0 set_app set_app0 objs_app objs_app0 List.cons_append List.nil_append List.length_cons List.length_nil List.getElem?_cons_zero List.getElem?_cons_succ List.set_cons_zero List.set_cons_succ
attribute [-go_sem] cellAt_new

theorem zero3 : zeroA Tryz.prog 12 3 = .int .i64 0 := by kernel_rfl
theorem zeroOf3 : ZeroOf Tryz.prog 3 (.int .i64 0) := ⟨_, _, rfl, rfl, rfl, rfl, rfl⟩

theorem ops_c {h : List UInt8} {σ : AST} {K : AV → AST → Prop} (hK : K (.fn (.func 141) [] [.ptr (some (σ.objs.length, []))]) (σ.app [.cells (.str h)])) : TCalls Tryz.prog 111 [.str h] σ K := by
  refine tcalls_walk Tryz.f111 _ [.tmp 2] Tryz.func111 rfl rfl rfl mixed (Nat.le_of_ble_eq_true rfl) rfl fun hlen => ?_
  simp -dsimp only [↓reduceIte, go_sem]
  refine ⟨by intro x hx; simp only [List.mem_singleton] at hx; subst hx; simp only [go_sem], later_intro ?_⟩
  simp -dsimp only [↓reduceIte, go_sem]
  exact hK

theorem wpX_ops {h : List UInt8} {fo : Operand} {ps : Array Tmp} {assign body : Code} {Q : Exit → List Deferred → Env → AST → Prop} {ds : List Deferred} {τ : Env} {σ : AST} {n kh m : Nat} (vs : List AV) (C : Nat → List AObj) (G : Nat → Prop) (J : Nat → List AObj → Prop) (hG : G 0)
    (hlh : h.length ≤ 9223372036854775807) (hf : ev τ fo = .fn (.func 141) [] [.ptr (some (σ.objs.length + kh, []))])
    (hvs : ∀ (i : Nat) v, vs[i]? = some v → v = .undef ∨ (v = τ i ∧ v.known = true)) (hvl : vs.length ≤ n) (hps : ps.size = 2) (hp : ∀ p ∈ ps.toList, p < n) (hd1 : dstOk n assign = true) (hd2 : dstOk n body = true)
    (hCl : ∀ i, (C i).length = m) (hCh : ∀ i, (C i)[kh]? = some (.cells (.str h))) (hJ : ∀ i L, J i L → L.length = m ∧ L[kh]? = some (.cells (.str h)))
    (hround : ∀ (i : Nat) (b : UInt8) (E : List AObj) (KA : Env → AST → Prop), h[i]? = some b → G i → (∀ τ', (∀ (E' : List AObj) (KB : Exit → Env → AST → Prop), (∀ τ'', G (i + 1) → KB .normal τ'' (σ.app (C (i + 1) ++ E'))) → (∀ τ'' L, J i L → KB .ret τ'' (σ.app (L ++ E'))) → awp Tryz.prog body KB τ' (σ.app (C i ++ E'))) → KA τ' (σ.app (C i ++ E))) →
      awp Tryz.prog assign (thenQ KA fun _ _ _ => False) (envR vs ps.toList [.int .i64 b.toNat, .int .i64 (cnt b.toNat (h.take (i + 1)))]) (σ.app (C i ++ E)))
    (hdone : ∀ D E, G h.length → E[0]? = some (AObj.pin D (.deferred (some [])) [] []) → Q .normal (⟨.collected D, #[]⟩ :: ds) τ (σ.app (C h.length ++ E)))
    (hstop : ∀ i D L E, J i L → E[0]? = some (AObj.pin D (.deferred (some [])) [] []) → wpX Tryz.prog n .ret Q (⟨.collected D, #[]⟩ :: ds) τ (σ.app (L ++ E))) :
    wpX Tryz.prog n (.rangeFunc fo ps assign body) Q ds τ (σ.app (C 0)) := by
  have hkh : kh < m := by have := (List.getElem?_eq_some_iff.1 (hCh 0)).1; rw [hCl] at this; exact this
  refine wpX_range (gf := 141) hf hvs hvl fun fn l D tm htm => ?_
  have hlen0 : (σ.app (C 0)).objs.length + 1 = σ.objs.length + (m + 1) := by rw [length_app, hCl]; omega
  rw [hlen0]
  have at1 : ∀ (L : List AObj) (x y : AObj) (r : List AObj), L.length = m → (σ.app (L ++ x :: y :: r)).objs[σ.objs.length + (m + 1)]? = some y := fun L x y r hL => by
    rw [objs_app, List.getElem?_append_right (by omega), hL, show m + 1 - m = 1 by omega]; rfl
  have set1 : ∀ (L : List AObj) (x y z : AObj) (r : List AObj), L.length = m → (σ.app (L ++ x :: y :: r)).set (σ.objs.length + (m + 1)) z = σ.app (L ++ x :: z :: r) := fun L x y z r hL => by
    rw [set_app, List.set_append_right _ _ (by omega), hL, show m + 1 - m = 1 by omega]; rfl
  have hst : ((σ.app (C 0)).push (.pin D (.deferred (some [])) [] [])).push (.pin l (rec fn tm ps assign body D .ready none) vs tm.toList) = σ.app (C 0 ++ [.pin D (.deferred (some [])) [] [], .pin l (rec fn tm ps assign body D .ready none) vs tm.toList]) := by
    rw [push_app, push_app, app_app, app_app]; rfl
  rw [hst]
  refine ops1_c (h := h) (N := σ.objs.length + (m + 2)) (fun i s => G i ∧ s = σ.app (C i ++ [.pin D (.deferred (some [])) [] [], .pin l (rec fn tm ps assign body D .ready none) vs tm.toList]))
    (fun i s => ∃ L, J i L ∧ s = σ.app (L ++ [.pin D (.deferred (some [])) [] [], .pin l (rec fn tm ps assign body D .done (some .ret)) vs tm.toList])) hlh ?_ ?_ ?_ ⟨hG, rfl⟩ ?_ ?_
  · rintro i _ ⟨_, rfl⟩
    refine ⟨by rw [length_app, List.length_append, hCl]; rfl, ?_⟩
    rw [objs_app, List.getElem?_append_left (by rw [hCl]; exact hkh)]; exact hCh i
  · rintro i _ ⟨L, hL, rfl⟩
    obtain ⟨h1, h2⟩ := hJ i L hL
    refine ⟨by rw [length_app, List.length_append, h1]; rfl, ?_⟩
    rw [objs_app, List.getElem?_append_left (by omega)]; exact h2
  · rintro i b _ o hb ⟨hGi, rfl⟩
    rw [app_app, List.append_assoc]
    refine ycalls_of mixed (il := σ.objs.length + (m + 1)) (at1 _ _ _ _ (hCl i)) (by simp [hps]) (by rw [htm]; exact hp) (by rw [htm]; exact hvl) (by rw [htm]; exact hd1) (by rw [htm]; exact hd2) ?_
    refine hround i b _ _ hb hGi fun τ' hbody => ⟨at1 _ _ _ _ (hCl i), ?_⟩
    simp only [List.cons_append, List.nil_append]
    rw [set1 _ _ _ _ _ (hCl i)]
    refine hbody _ _ ?_ ?_
    · intro τ'' hGn
      refine ⟨at1 _ _ _ _ (hCl _), _, ?_, .inl ⟨rfl, hGn, rfl⟩⟩
      rw [set1 _ _ _ _ _ (hCl _), app_app, List.append_assoc]; rfl
    · intro τ'' L hL
      have hm := (hJ i L hL).1
      refine ⟨at1 _ _ _ _ hm, _, ?_, .inr ⟨rfl, L, hL, rfl⟩⟩
      rw [set1 _ _ _ _ _ hm, app_app, List.append_assoc]; rfl
  · rintro _ o ⟨hGn, rfl⟩
    refine ⟨.ready, none, by simp, by rw [app_app, List.append_assoc]; exact at1 _ _ _ _ (hCl _), ?_⟩
    rw [app_app, List.append_assoc]
    simp only [List.cons_append, List.nil_append]
    rw [set1 _ _ _ _ _ (hCl _)]
    exact hdone D _ hGn rfl
  · rintro i _ o hi ⟨L, hL, rfl⟩
    have hm := (hJ i L hL).1
    refine ⟨.done, some .ret, by simp, by rw [app_app, List.append_assoc]; exact at1 _ _ _ _ hm, ?_⟩
    rw [app_app, List.append_assoc]
    simp only [List.cons_append, List.nil_append]
    rw [set1 _ _ _ _ _ hm]
    exact hstop i D L _ hL rfl

theorem count_c {h : List UInt8} {c : Int} {σ : AST} {K : AV → AST → Prop} (hK : K (.int .i64 (cnt c h)) σ) : TCalls Tryz.prog 78 [.str h, .int .i64 c] σ K := by
  refine TCalls.drop ?_
  refine tcalls_ofX Tryz.f78 ⟨_, Tryz.func78, rfl, rfl⟩ Tryz.func78 rfl (Nat.le_of_ble_eq_true rfl) fun hlen => ?_
  have hlh : h.length ≤ 9223372036854775807 := hlen (.str h) (by simp)
  refine wpX_seq_k mixed rfl fun KR hKR => ?_
  simp -dsimp only [↓reduceIte, go_sem]
  refine hKR _ _ (wpX_seq_k mixed rfl fun KR hKR => ?_)
  simp -dsimp only [↓reduceIte, go_sem]
  rw [zero3]
  refine ⟨zeroOf3, later_intro ?_⟩
  simp -dsimp only [↓reduceIte, go_sem]
  refine hKR _ _ (wpX_seq (wpX_seq_k mixed rfl fun KR hKR => ?_))
  simp -dsimp only [↓reduceIte, go_sem]
  refine ops_c ?_
  simp -dsimp only [↓reduceIte, go_sem]
  refine hKR _ _ (wpX_block (wpX_ops (n := Tryz.f78.ntmps) (kh := 2) (m := 3) [.undef, .undef, .undef, .ptr (some (σ.objs.length, [])), .undef, .ptr (some (σ.objs.length + 1, []))]
    (fun i => [.cells (.int .i64 c), .cells (.int .i64 (cnt c (h.take i))), .cells (.str h)]) (fun _ => True) (fun _ _ => False) trivial hlh ?_ ?_ (by show 6 ≤ 17; decide) rfl (by decide) rfl rfl (fun _ => rfl) (fun _ => rfl) (fun _ _ h => h.elim) ?_ ?_ (fun _ _ _ _ h => h.elim)))
  · simp only [go_sem]
  · intro i v hv
    rcases i with _ | _ | _ | _ | _ | _ | i <;> simp only [List.getElem?_cons_zero, List.getElem?_cons_succ, List.getElem?_nil, Option.some.injEq, reduceCtorEq] at hv <;> subst hv <;> first | exact .inl rfl | (right; exact ⟨by simp only [go_sem], rfl⟩)
  · intro i b E KA hb _ hKA
    have hi : i < h.length := (List.getElem?_eq_some_iff.1 hb).1
    have hcl := cnt_take_le (c := c) (h := h) (i := i)
    have hct := cnt_take (c := c) hb
    simp only [envR, List.zip_cons_cons, List.zip_nil_right, List.foldl_cons, List.foldl_nil]
    simp -dsimp only [↓reduceIte, go_sem]
    refine hKA _ fun E' KB hn _ => ?_
    simp -dsimp only [↓reduceIte, go_sem]
    refine boolW_split (fun hbc => ?_) (fun hbc => ?_)
    · have hbc : isC c b = true := by simpa [isC] using hbc
      rw [if_pos hbc] at hct
      simp -dsimp only [↓reduceIte, go_sem]
      rw [wrap_i64 (by omega) (by omega)]
      have := hn
      simp only [hct] at this
      exact this _ trivial
    · have hbc : ¬ isC c b = true := by simpa [isC] using hbc
      rw [if_neg hbc] at hct
      simp -dsimp only [↓reduceIte, go_sem]
      have := hn
      simp only [hct, Nat.add_zero] at this
      exact this _ trivial
  · intro D E _ hE
    simp -dsimp only [↓reduceIte, go_sem]
    refine wpX_awp mixed rfl fun _ => ?_
    simp -dsimp only [↓reduceIte, go_sem]
    rw [List.take_length]
    refine ⟨.inr rfl, D, σ.objs.length + 3, [], [], rfl, by rw [objs_app]; exact hE, ?_⟩
    rw [set_app]
    show resW Tryz.prog [.tmp 4] _ _ _
    simp -dsimp only [↓reduceIte, go_sem]
    exact ⟨Ext.app _ _, rfl, hK⟩

end Go.Aff.L09

namespace Go.Aff.L09

/-! ### Growing -/
/-! ### Going on, fitting -/
def goes (long short : List UInt8) : Bool := decide (short <+: long)
/-! ### Forks -/
end Go.Aff.L09

namespace Go.Aff.L09
open Go.Proofs Go.Aff
set_option maxRecDepth 20000
attribute [local go_sem] Tryz.underlying3 Tryz.underlying5 Tryz.underlying9

theorem all_take {h : List UInt8} {i : Nat} {b : UInt8} {p : UInt8 → Bool} (hb : h[i]? = some b) : (h.take (i + 1)).all p = ((h.take i).all p && p b) := by
  rw [List.take_add_one, hb]; simp

theorem right_c {h : List UInt8} {n : Int} (h0 : -9223372036854775808 ≤ n) (h1 : n ≤ 9223372036854775807) {σ : AST} {K : AV → AST → Prop} (hK : K (.bool (right h n)) σ) : TCalls Tryz.prog 151 [.str h, .int .i64 n] σ K := by
  refine tcalls_walk Tryz.f151 _ [.tmp 4] Tryz.func151 rfl rfl rfl mixed (Nat.le_of_ble_eq_true rfl) rfl fun hlen => ?_
  have hs : h.length ≤ 9223372036854775807 := hlen (.str h) (by simp)
  simp -dsimp only [↓reduceIte, go_sem]
  refine arr_intro fun _ => ?_
  simp -dsimp only [↓reduceIte, go_sem]
  refine awp_rounds (fun (i : Nat) τ s => i ≤ h.length ∧ s = σ ∧ τ 0 = .str h ∧ τ 1 = .int .i64 n ∧ τ 7 = .int .i64 h.length ∧ τ 8 = .int .i64 i ∧ (h.take i).all (fun b => decide ((b.toNat : Int) < n)) = true) (fun i => h.length - i) 0 ?_ ?_
  · refine ⟨by omega, rfl, ?_, ?_, ?_, ?_, by simp⟩ <;> simp only [go_sem] <;> rfl
  · rintro i τ s ⟨hi, rfl, t0, t1, t7, t8, hall⟩
    simp -dsimp only [↓reduceIte, go_sem, t0, t1, t7, t8]
    refine boolW_split (fun hb => ?_) (fun hb => ?_)
    · have hb : i < h.length := by simp at hb; omega
      obtain ⟨b, hbb⟩ := get_lt hb
      have hbt := b.toNat_lt
      simp -dsimp only [↓reduceIte, go_sem, t0, t1, t7, t8]
      refine nth_get hbb ?_
      simp -dsimp only [↓reduceIte, go_sem, t0, t1, t7, t8]
      rw [wrap_i64 (n := (b.toNat : Int)) (by omega) (by omega)]
      refine boolW_split (fun hc => ?_) (fun hc => ?_)
      · have hc : n ≤ b.toNat := by simpa using hc
        have : right h n = false := by
          unfold right
          rw [Bool.and_eq_false_iff]; left
          rw [List.all_eq_false]
          exact ⟨b, List.mem_iff_getElem?.2 ⟨i, hbb⟩, by simp; omega⟩
        rw [this] at hK
        simp -dsimp only [↓reduceIte, go_sem, t0, t1, t7, t8]
        exact hK
      · have hc : ¬ n ≤ b.toNat := by simpa using hc
        simp -dsimp only [↓reduceIte, go_sem, t0, t1, t7, t8]
        rw [wrap_i64 (by omega) (by omega)]
        refine later_intro ⟨i + 1, by omega, by omega, rfl, ?_, ?_, ?_, ?_, ?_⟩ <;> (try simp only [go_sem, t0, t1, t7, t8]) <;> try rfl
        rw [all_take hbb, hall]; simp; omega
    · have hb : i = h.length := by simp at hb; omega
      subst hb
      rw [List.take_length] at hall
      have hr : right h n = decide (h.length ≤ 512 ∧ 1 ≤ n ∧ n ≤ 256) := by unfold right; rw [hall]; simp
      rw [hr] at hK
      simp -dsimp only [↓reduceIte, go_sem, t0, t1, t7, t8]
      refine arr_intro fun _ => ?_
      simp -dsimp only [↓reduceIte, go_sem, t0, t1, t7, t8]
      refine guardV_split (fun h3 => ?_) (fun h3 => ?_) <;> (try rw [h3])
      · have h3 : h.length ≤ 512 := by simp at h3; omega
        simp -dsimp only [↓reduceIte, go_sem, t0, t1, t7, t8]
        refine guardV_split (fun h4 => ?_) (fun h4 => ?_) <;> (try rw [h4])
        · have h4 : 1 ≤ n := by simpa using h4
          simp -dsimp only [↓reduceIte, go_sem, t0, t1, t7, t8]
          rw [show decide (n ≤ 256) = decide (h.length ≤ 512 ∧ 1 ≤ n ∧ n ≤ 256) by simp [h3, h4]]
          exact hK
        · have h4 : ¬ 1 ≤ n := by simpa using h4
          simp -dsimp only [↓reduceIte, go_sem, t0, t1, t7, t8]
          rw [show decide (h.length ≤ 512 ∧ 1 ≤ n ∧ n ≤ 256) = false by simp; omega] at hK
          exact hK
      · have h3 : ¬ h.length ≤ 512 := by simp at h3; omega
        simp -dsimp only [↓reduceIte, go_sem, t0, t1, t7, t8]
        rw [show decide (h.length ≤ 512 ∧ 1 ≤ n ∧ n ≤ 256) = false by simp; omega] at hK
        exact hK

theorem Count_c {h : List UInt8} {c : Int} {σ : AST} {K : AV → AST → Prop} (hK : K (.int .i64 (cnt c h)) σ) : TCalls Tryz.prog 82 [.str h, .int .i64 c] σ K := by
  refine tcalls_walk Tryz.f82 _ [.tmp 4] Tryz.func82 rfl rfl rfl mixed (Nat.le_of_ble_eq_true rfl) rfl fun hlen => ?_
  have hs : h.length ≤ 9223372036854775807 := hlen (.str h) (by simp)
  simp -dsimp only [↓reduceIte, go_sem]
  refine awp_rounds (fun (i : Nat) τ s => i ≤ h.length ∧ s = σ ∧ τ 0 = .str h ∧ τ 1 = .int .i64 c ∧ τ 6 = .int .i64 i ∧ τ 5 = .int .i64 (cnt c (h.take i) : Nat)) (fun i => h.length - i) 0 ?_ ?_
  · refine ⟨by omega, rfl, ?_, ?_, ?_, ?_⟩ <;> simp only [go_sem] <;> rfl
  · rintro i τ s ⟨hi, rfl, t0, t1, t6, t5⟩
    have hcl := cnt_take_le (c := c) (h := h) (i := i)
    simp -dsimp only [↓reduceIte, go_sem, t0, t1, t5, t6]
    refine arr_intro fun _ => ?_
    simp -dsimp only [↓reduceIte, go_sem, t0, t1, t5, t6]
    refine boolW_split (fun hb => ?_) (fun hb => ?_)
    · have hb : i < h.length := by simp at hb; omega
      obtain ⟨b, hbb⟩ := get_lt hb
      have hbt := b.toNat_lt
      have hct := cnt_take (c := c) hbb
      simp -dsimp only [↓reduceIte, go_sem, t0, t1, t5, t6]
      refine nth_get hbb ?_
      simp -dsimp only [↓reduceIte, go_sem, t0, t1, t5, t6]
      rw [wrap_i64 (n := (b.toNat : Int)) (by omega) (by omega)]
      refine boolW_split (fun hc => ?_) (fun hc => ?_)
      · have hc : isC c b = true := by simpa [isC] using hc
        rw [if_pos hc] at hct
        simp -dsimp only [↓reduceIte, go_sem, t0, t1, t5, t6]
        rw [wrap_i64 (n := (i : Int) + 1) (by omega) (by omega), wrap_i64 (by omega) (by omega)]
        refine later_intro ⟨i + 1, by omega, by omega, rfl, ?_, ?_, ?_, ?_⟩ <;> (try simp only [go_sem, t0, t1, t5, t6]) <;> try rfl
        rw [hct]; rfl
      · have hc : ¬ isC c b = true := by simpa [isC] using hc
        rw [if_neg hc] at hct
        simp -dsimp only [↓reduceIte, go_sem, t0, t1, t5, t6]
        rw [wrap_i64 (n := (i : Int) + 1) (by omega) (by omega)]
        refine later_intro ⟨i + 1, by omega, by omega, rfl, ?_, ?_, ?_, ?_⟩ <;> (try simp only [go_sem, t0, t1, t5, t6]) <;> try rfl
        rw [hct]; rfl
    · have hb : i = h.length := by simp at hb; omega
      subst hb
      rw [List.take_length] at t5
      simp -dsimp only [↓reduceIte, go_sem, t0, t1, t5, t6]
      exact hK


end Go.Aff.L09

namespace Go.Aff

open Go.RowKit Go.ChangeShapes Go.WideShapes Go.ChangeAt Go.ChangeMaps

variable {H : Type} {enc : TypeId × Value → H} {P : Program}

def aggD (xs : List AV) : AV := match unU8 xs with
  | some l => if h : l.length = 32 then .dig ⟨l, h⟩ else .agg xs
  | none => .agg xs
theorem aggD_ne {xs : List AV} (h : xs.length ≠ 32) : aggD xs = .agg xs := by
  unfold aggD
  split
  · rename_i l hl
    rw [dif_neg (by rw [unU8_length hl]; exact h)]
  · rfl
theorem unU8_bytes : ∀ (l : List UInt8), unU8 (l.map fun b => AV.int .u8 (b.toNat : Int)) = some l
  | [] => rfl
  | b :: r => by simp [unU8, unU8_bytes r]
theorem aggD_dig {l : List UInt8} (h : l.length = 32) : aggD (l.map fun b => AV.int .u8 (b.toNat : Int)) = .dig ⟨l, h⟩ := by
  unfold aggD
  rw [unU8_bytes]
  simp [h]
mutual
def absD : DataW H → AV
  | .lit (.bool b) => .bool b
  | .lit (.int k n) => .int k n
  | .lit (.string l) => .str l
  | .nil => .slice .full []
  | .slice es _ => .slice .none (absDs es)
  | .agg ps => aggD (absDs ps)
  | _ => .undef
def absDs : List (DataW H) → List AV
  | [] => []
  | d :: r => absD d :: absDs r
end

theorem absDs_map : ∀ (l : List (DataW H)), absDs l = l.map absD
  | [] => rfl
  | d :: r => by simp [absDs, absDs_map r]

def laidFrom (P : Program) : Nat → List Field → Option Nat
  | o, [] => some o
  | o, f :: fs => if f.offset = o then laidFrom P (o + P.cellsOf f.type) fs else none

def arr32 (P : Program) (t : TypeId) (n : Nat) (e : TypeId) : Bool := n == 32 && isU8 P e && P.cellsOf e == 1 && P.cellsOf t == 32
def flatT (P : Program) : Nat → TypeId → Bool
  | 0, _ => false
  | n + 1, t => match P.underlying t with
    | some .bool => true
    | some (.int _) => true
    | some .string => true
    | some (.struct fs) => (fs.size != 32 && laidFrom P 0 fs.toList == some (P.cellsOf t)) && fs.toList.all fun f => flatT P n f.type
    | some (.array k e) => arr32 P t k e
    | _ => false

def plainT (P : Program) : Nat → TypeId → Bool
  | 0, _ => false
  | n + 1, t => match P.underlying t with
    | some .bool => true
    | some (.int _) => true
    | some .string => true
    | some (.slice e) => decide (0 < P.cellsOf e) && plainT P n e
    | some (.struct fs) => (fs.size != 32 && laidFrom P 0 fs.toList == some (P.cellsOf t)) && fs.toList.all fun f => plainT P n f.type
    | some (.array k e) => arr32 P t k e
    | _ => false

variable {g : G} {W : World}

theorem rows_rel {es b : Nat} {o : Nat} : ∀ (els : List AV), (∀ i v, els[i]? = some v → ∃ cs, cs.length = es ∧ relC g W v cs ∧ ∀ j, j < es → W.cell? ⟨b, o + i * es + j, none⟩ = cs[j]?) →
    ∃ css, relEs g W es els css ∧ ∀ j, j < css.length → W.cell? ⟨b, o + j, none⟩ = css[j]?
  | [], h => ⟨[], by simp [relEs], fun j hj => by simp at hj⟩
  | v :: r, h => by
    obtain ⟨c1, hl, hr, hc⟩ := h 0 v rfl
    obtain ⟨c2, hr2, hc2⟩ := rows_rel (es := es) (b := b) (o := o + es) r (fun i u hu => by
      obtain ⟨cs, h1, h2, h3⟩ := h (i + 1) u (by simpa using hu)
      exact ⟨cs, h1, h2, fun j hj => by rw [← h3 j hj]; congr 2; rw [Nat.add_mul]; omega⟩)
    refine ⟨c1 ++ c2, by simp only [relEs]; exact ⟨c1, c2, rfl, hl, hr, hr2⟩, fun j hj => ?_⟩
    by_cases hj1 : j < c1.length
    · rw [List.getElem?_append_left hj1, ← hc j (by omega)]; simp
    · rw [List.getElem?_append_right (by omega), ← hc2 (j - c1.length) (by simp at hj; omega)]
      congr 2; omega

theorem parts_rel {n : Nat} {spare : Nat → Bool} {held : Bool} {N : Nat} (ok : Value → Prop) (T : TypeId → Prop)
    (ih : ∀ t cs x, T t → DataW.trod enc P W 0 spare held n t cs = some x → (∀ c ∈ cs, ok c) → relC g W (absD x.1) cs) :
    ∀ (fs : List Field) (xs : List (DataW H × List MemPlace)) (o : Nat) (cs : List Value), laidFrom P o fs = some N → cs.length = N → (∀ f ∈ fs, T f.type) → (∀ c ∈ cs, ok c) → xs.length = fs.length →
      (∀ (i : Nat) (f : Field), fs[i]? = some f → DataW.trod enc P W 0 spare held n f.type ((cs.drop f.offset).take (P.cellsOf f.type)) = xs[i]?) →
      relPs g W (absDs (xs.map (·.1))) (cs.drop o)
  | [], [], o, cs, hl, hcs, hT, hn, hx, h => by
    simp only [laidFrom, Option.some.injEq] at hl
    simp only [List.map_nil, absDs, relPs]
    exact List.drop_of_length_le (by omega)
  | [], x :: xs, o, cs, hl, hcs, hT, hn, hx, h => by simp at hx
  | f :: fs, [], o, cs, hl, hcs, hT, hn, hx, h => by simp at hx
  | f :: fs, x :: xs, o, cs, hl, hcs, hT, hn, hx, h => by
    simp only [laidFrom] at hl
    split at hl
    · rename_i ho
      have h0 := h 0 f rfl
      simp only [List.getElem?_cons_zero] at h0
      have hr := ih _ _ _ (hT f (by simp)) h0 (fun c hc => hn c (List.mem_of_mem_drop (List.mem_of_mem_take hc)))
      have hr2 := parts_rel ok T ih fs xs _ cs hl hcs (fun f hf => hT f (by simp [hf])) hn (by simpa using hx) (fun i f hf => by simpa using h (i + 1) f (by simpa using hf))
      simp only [List.map_cons, absDs, relPs]
      refine ⟨_, _, ?_, hr, hr2⟩
      rw [ho, ← List.drop_drop]
      exact (List.take_append_drop _ _).symm
    · cases hl

theorem isU8_iff {e : TypeId} (h : isU8 P e = true) : P.underlying e = some (.int .u8) := by
  unfold isU8 at h; split at h
  · assumption
  · cases h
theorem bytes_of {spare : Nat → Bool} {held : Bool} {m : Nat} {e : TypeId} (he : P.underlying e = some (.int .u8)) : ∀ (cs : List Value) (xs : List (DataW H × List MemPlace)), cs.length = xs.length →
    (∀ i, i < cs.length → DataW.trod enc P W 0 spare held m e ((cs.drop i).take 1) = xs[i]?) → ∃ l : List UInt8, cs = l.map (fun b => Value.int .u8 b.toNat) ∧ absDs (xs.map (·.1)) = l.map (fun b => AV.int .u8 (b.toNat : Int))
  | [], [], hl, h => ⟨[], rfl, rfl⟩
  | [], x :: xs, hl, h => by simp at hl
  | c :: cs, [], hl, h => by simp at hl
  | c :: cs, x :: xs, hl, h => by
    obtain ⟨l, h1, h2⟩ := bytes_of he cs xs (by simpa using hl) (fun i hi => by simpa using h (i + 1) (by simpa using hi))
    have h0 := h 0 (by simp)
    simp only [List.drop_zero, List.take_succ_cons, List.take_zero, List.getElem?_cons_zero] at h0
    obtain ⟨n, hc, rfl, hw⟩ := DataW.trod_int he h0
    simp only [List.cons.injEq, and_true] at hc
    subst hc
    have hr : (IntKind.u8).min ≤ n ∧ n ≤ (IntKind.u8).max := by simpa [Lit.wf] using hw
    have hr : 0 ≤ n ∧ n ≤ 255 := hr
    have e1 : (((UInt8.ofNat n.toNat).toNat : Nat) : Int) = n := by
      rw [UInt8.toNat_ofNat']
      omega
    refine ⟨UInt8.ofNat n.toNat :: l, ?_, ?_⟩
    · rw [List.map_cons, e1, ← h1]
    · rw [List.map_cons, List.map_cons, absDs, h2, e1]; rfl
theorem arr_of {spare : Nat → Bool} {held : Bool} {n k : Nat} {t e : TypeId} {cs : List Value} {x : DataW H × List MemPlace} (hu : P.underlying t = some (.array k e)) (ha : arr32 P t k e = true) (h : DataW.trod enc P W 0 spare held n t cs = some x) :
    ∃ d : Dig, absD x.1 = .dig d ∧ cs = d.l.map fun b => Value.int .u8 b.toNat := by
  unfold arr32 at ha
  simp only [Bool.and_eq_true, beq_iff_eq] at ha
  obtain ⟨⟨⟨rfl, h8⟩, h1⟩, h32⟩ := ha
  obtain ⟨xs, m, rfl, rfl, hcl, hxl, hx⟩ := DataW.trod_array hu h
  rw [h1] at hx
  obtain ⟨l, e1, e2⟩ := bytes_of (isU8_iff h8) cs xs (by omega) (fun i hi => by simpa using hx i (by omega))
  have hl : l.length = 32 := by
    have := congrArg List.length e1
    rw [List.length_map] at this; omega
  refine ⟨⟨l, hl⟩, ?_, e1⟩
  simp only [absD]
  rw [e2, aggD_dig hl]

theorem flat_rel {spare : Nat → Bool} {held : Bool} : ∀ (n m : Nat) (t : TypeId) (cs : List Value) (x : DataW H × List MemPlace), flatT P m t = true → DataW.trod enc P W 0 spare held n t cs = some x → relC g W (absD x.1) cs
  | 0, m, t, cs, x, hf, h => by simp [DataW.trod] at h
  | n + 1, 0, t, cs, x, hf, h => by simp [flatT] at hf
  | n + 1, m + 1, t, cs, x, hf, h => by
    unfold flatT at hf
    split at hf
    · rename_i hu; obtain ⟨b, rfl, rfl⟩ := DataW.trod_bool hu h; simp [absD, relC]
    · rename_i hu; obtain ⟨b, rfl, rfl, _⟩ := DataW.trod_int hu h; simp [absD, relC]
    · rename_i hu; obtain ⟨s, rfl, rfl, hs⟩ := DataW.trod_string hu h
      simp only [absD, relC]
      refine ⟨by simp, ?_⟩
      have : s.size = s.data.toList.length := by simp
      have h2 : maxLen ≤ maxL := by decide
      omega
    · rename_i fs hu
      simp only [Bool.and_eq_true, beq_iff_eq, bne_iff_ne, ne_eq, List.all_eq_true] at hf
      obtain ⟨⟨hne, hlaid⟩, hall⟩ := hf
      obtain ⟨xs, n', hn, rfl, hl, hxl, hx⟩ := DataW.trod_struct hu h
      cases hn
      have hf := And.intro hlaid hall
      simp only [absD]
      rw [aggD_ne (by rw [absDs_map, List.length_map, List.length_map, hxl]; simpa using hne)]
      simp only [relC]
      exact parts_rel (g := g) (W := W) (enc := enc) (P := P) (n := n) (spare := spare) (held := held) (fun _ => True) (fun t => flatT P m t = true) (fun t cs x ht hx _ => flat_rel n m t cs x ht hx) fs.toList xs 0 cs hf.1 hl (fun f hf' => hf.2 f hf') (fun _ _ => trivial) (by simpa using hxl) (fun i f hf' => hx i f (by simpa using hf'))
    · rename_i k e hu
      obtain ⟨d, h1, h2⟩ := arr_of hu hf h
      rw [h1]; simp only [relC]; exact h2
    · cases hf

theorem rd_of {b o : Nat} {css : List Value} (h : ∀ j, j < css.length → W.cell? ⟨b, o + j, none⟩ = css[j]?) : css = [] ∨ rd W b o css := by
  rcases css with _ | ⟨c, r⟩
  · exact .inl rfl
  refine .inr ?_
  have h0 := h 0 (by simp)
  unfold World.cell? at h0
  split at h0
  · rename_i cc e fr hc
    refine ⟨cc, e, fr, hc, fun j hj => ?_⟩
    have := h j hj
    unfold World.cell? at this
    dsimp only at this hc
    rw [hc] at this
    simpa using this
  · simp at h0

theorem plain_rel (hg : W.heap.size ≤ g.base) {spare : Nat → Bool} {held : Bool} (hsp : ∀ b, spare b = true) : ∀ (n m : Nat) (t : TypeId) (cs : List Value) (x : DataW H × List MemPlace), plainT P m t = true → DataW.trod enc P W 0 spare held n t cs = some x → relC g W (absD x.1) cs
  | 0, m, t, cs, x, hf, h => by simp [DataW.trod] at h
  | n + 1, 0, t, cs, x, hf, h => by simp [plainT] at hf
  | n + 1, m + 1, t, cs, x, hf, h => by
    unfold plainT at hf
    split at hf
    · rename_i hu; obtain ⟨b, rfl, rfl⟩ := DataW.trod_bool hu h; simp [absD, relC]
    · rename_i hu; obtain ⟨b, rfl, rfl, _⟩ := DataW.trod_int hu h; simp [absD, relC]
    · rename_i hu; obtain ⟨s, rfl, rfl, hs⟩ := DataW.trod_string hu h
      simp only [absD, relC]
      refine ⟨by simp, ?_⟩
      have : s.size = s.data.toList.length := by simp
      have h2 : maxLen ≤ maxL := by decide
      omega
    · rename_i e hu
      simp only [Bool.and_eq_true, decide_eq_true_eq] at hf
      rcases DataW.trod_slice hu h with ⟨rfl, rfl⟩ | ⟨a, len, cap, elems, rest, n', hn', rfl, rfl, hb, hl, hm, hlen, hel, hrest, -⟩
      · simp only [absD]; exact relC_nil g W
      · cases hn'
        by_cases hcap : cap = 0
        · subst hcap
          obtain rfl : len = 0 := by omega
          obtain rfl := List.length_eq_zero_iff.1 hlen
          simp only [absD, relC, List.map_nil, absDs]
          exact ⟨some a, none, 0, P.cellsOf e, [], rfl, .inr ⟨rfl, rfl⟩, by simp [relEs], Nat.le_refl _, by decide, fun _ => rfl, (fun b o h => by cases h), trivial⟩
        have hs : a.spot = none := by
          obtain ⟨hr1, hr2⟩ := hrest (hsp _)
          have key : ∀ (y : Option (DataW H × List MemPlace)), (World.cells? W 0 (a.add (0 * P.cellsOf e)) (P.cellsOf e)).bind (DataW.trod enc P W 0 spare held n e) = y → y.isSome = true → a.spot = none := by
            intro y hy hsome
            cases y with
            | none => cases hsome
            | some y =>
              rw [Option.bind_eq_some_iff] at hy
              obtain ⟨cs, hcs, _⟩ := hy
              obtain ⟨_, hcl, hcell⟩ := World.cells?_some hcs
              have h0 := hcell 0 hf.1
              have : ∃ v, cs[0]? = some v := ⟨cs[0]'(by omega), List.getElem?_eq_getElem _⟩
              obtain ⟨v, hv⟩ := this
              rw [hv] at h0
              simpa [Addr.add] using World.cell?_spot h0
          by_cases hl0 : len = 0
          · subst hl0
            refine key _ (by simpa using hr2 0 (by omega)) ?_
            rw [List.getElem?_eq_getElem (by omega)]; rfl
          · refine key _ (hel 0 (by omega)) ?_
            rw [List.getElem?_eq_getElem (by omega)]; rfl
        simp only [absD, relC]
        obtain ⟨css, hr, hc⟩ := rows_rel (g := g) (W := W) (es := P.cellsOf e) (b := a.block) (o := a.off) (absDs (elems.map (·.1))) (fun i v hv => by
          rw [absDs_map, List.map_map, List.getElem?_map, Option.map_eq_some_iff] at hv
          obtain ⟨y, hy, rfl⟩ := hv
          have hi : i < elems.length := (List.getElem?_eq_some_iff.1 hy).1
          have := hel i (by omega)
          rw [hy, Option.bind_eq_some_iff] at this
          obtain ⟨cs, hcs, ht⟩ := this
          obtain ⟨_, hcl, hcell⟩ := World.cells?_some hcs
          refine ⟨cs, hcl, plain_rel hg hsp n m e cs y hf.2 ht, fun j hj => ?_⟩
          rw [← hcell j hj]
          congr 1
          unfold Addr.add
          obtain ⟨b, o, sp⟩ := a
          dsimp only at hs; subst hs
          split <;> split <;> simp_all <;> omega)
        refine ⟨some a, some (a.block, a.off), cap, P.cellsOf e, css, by simp [absDs_map, hlen], .inl ?_, hr, ?_, ?_, (fun h => by cases h), (fun b o hbo => ?_), trivial⟩
        · obtain ⟨b, o, sp⟩ := a
          dsimp only at hs; subst hs
          rfl
        · simpa [absDs_map, hlen] using hl
        · have h2 : maxLen ≤ maxL := by decide
          omega
        · simp only [Option.some.injEq, Prod.mk.injEq] at hbo
          obtain ⟨rfl, rfl⟩ := hbo
          rcases rd_of hc with h0 | h0
          · exact .inl h0
          · refine .inr ⟨h0, .inl ?_⟩
            obtain ⟨c, el, fr, hcc, _⟩ := h0
            have := (Array.getElem?_eq_some_iff.1 hcc).1
            omega
    · rename_i fs hu
      simp only [Bool.and_eq_true, beq_iff_eq, bne_iff_ne, ne_eq, List.all_eq_true] at hf
      obtain ⟨⟨hne, hlaid⟩, hall⟩ := hf
      obtain ⟨xs, n', hn', rfl, hl, hxl, hx⟩ := DataW.trod_struct hu h
      cases hn'
      have hf := And.intro hlaid hall
      simp only [absD]
      rw [aggD_ne (by rw [absDs_map, List.length_map, List.length_map, hxl]; simpa using hne)]
      simp only [relC]
      exact parts_rel (g := g) (W := W) (enc := enc) (P := P) (n := n) (spare := spare) (held := held) (fun _ => True) (fun t => plainT P m t = true) (fun t cs x ht hx _ => plain_rel hg hsp n m t cs x ht hx) fs.toList xs 0 cs hf.1 hl (fun f hf' => hf.2 f hf') (fun _ _ => trivial) (by simpa using hxl) (fun i f hf' => by simpa using hx i f (by simpa using hf'))
    · rename_i k e hu
      obtain ⟨d, h1, h2⟩ := arr_of hu hf h
      rw [h1]; simp only [relC]; exact h2
    · cases hf

/-! ### What is known of an argument -/

mutual
def ShT (P : Program) : Nat → TypeId → AV → Prop
  | 0, _, _ => False
  | n + 1, t, v => match P.underlying t with
    | some .bool => ∃ b, v = .bool b
    | some (.int k) => ∃ i, v = .int k i ∧ k.min ≤ i ∧ i ≤ k.max
    | some .string => ∃ s, v = .str s
    | some (.slice e) => ∃ tk xs, v = .slice tk xs ∧ ∀ x ∈ xs, ShT P n e x
    | some (.struct fs) => ∃ ps, v = .agg ps ∧ ShTs P n fs.toList ps
    | some (.array _ _) => ∃ d, v = .dig d
    | _ => False
def ShTs (P : Program) : Nat → List Field → List AV → Prop
  | _, [], [] => True
  | 0, _, _ => False
  | n + 1, f :: fs, p :: ps => ShT P n f.type p ∧ ShTs P n fs ps
  | _, _, _ => False
end

def ShAll (P : Program) (n : Nat) : List TypeId → List AV → Prop
  | [], [] => True
  | t :: ts, v :: vs => ShT P n t v ∧ ShAll P n ts vs
  | _, _ => False

mutual
def shOk (P : Program) : Nat → TypeId → Bool
  | 0, _ => false
  | n + 1, t => match P.underlying t with
    | some .bool => true
    | some (.int _) => true
    | some .string => true
    | some (.slice e) => shOk P n e
    | some (.struct fs) => fs.size != 32 && shOks P n fs.toList
    | some (.array k e) => arr32 P t k e
    | _ => false
def shOks (P : Program) : Nat → List Field → Bool
  | _, [] => true
  | 0, _ => false
  | n + 1, f :: fs => shOk P n f.type && shOks P n fs
end

theorem wf_range {k : IntKind} {n : Int} (h : (Lit.int k n).wf = true) : k.min ≤ n ∧ n ≤ k.max := by
  simpa [Lit.wf] using h

mutual
theorem sh_of {held : Bool} {spare : Nat → Bool} : ∀ (n m : Nat) (t : TypeId) (cs : List Value) (x : DataW H × List MemPlace), shOk P m t = true → DataW.trod enc P W 0 spare held n t cs = some x → ShT P m t (absD x.1)
  | 0, m, t, cs, x, hf, h => by simp [DataW.trod] at h
  | n + 1, 0, t, cs, x, hf, h => by simp [shOk] at hf
  | n + 1, m + 1, t, cs, x, hf, h => by
    unfold shOk at hf; unfold ShT
    split at hf
    · rename_i hu; obtain ⟨b, rfl, rfl⟩ := DataW.trod_bool hu h; simp [absD, hu]
    · rename_i hu; obtain ⟨b, rfl, rfl, hw⟩ := DataW.trod_int hu h; simp only [absD, hu]; exact ⟨_, rfl, wf_range hw⟩
    · rename_i hu; obtain ⟨s, rfl, rfl, hs⟩ := DataW.trod_string hu h; simp [absD, hu]
    · rename_i e hu
      try simp only [hu]
      rcases DataW.trod_slice hu h with ⟨rfl, rfl⟩ | ⟨a, len, cap, elems, rest, n', hn', rfl, rfl, hb, hl, hm, hlen, hel, -, -⟩
      · simp only [absD]; exact ⟨_, _, rfl, fun x hx => by simp at hx⟩
      · cases hn'
        simp only [absD, absDs_map]
        refine ⟨_, _, rfl, fun v hv => ?_⟩
        rw [List.map_map] at hv
        obtain ⟨y, hy, rfl⟩ := List.mem_map.1 hv
        obtain ⟨i, hi⟩ := List.mem_iff_getElem?.1 hy
        have hlt := (List.getElem?_eq_some_iff.1 hi).1
        have := hel i (by omega)
        rw [hi, Option.bind_eq_some_iff] at this
        obtain ⟨cs', _, ht⟩ := this
        exact sh_of n m e cs' y hf ht
    · rename_i fs hu
      try simp only [hu]
      simp only [Bool.and_eq_true, bne_iff_ne, ne_eq] at hf
      obtain ⟨hne, hf⟩ := hf
      obtain ⟨xs, n', hn', rfl, hl, hxl, hx⟩ := DataW.trod_struct hu h
      cases hn'
      simp only [absD]
      rw [aggD_ne (by rw [absDs_map, List.length_map, List.length_map, hxl]; simpa using hne)]
      exact ⟨_, rfl, shs_of n m fs.toList xs cs hf (by simpa using hxl) (fun i f hf' => hx i f (by simpa using hf'))⟩
    · rename_i k e hu
      try simp only [hu]
      obtain ⟨d, h1, h2⟩ := arr_of hu hf h
      exact ⟨d, h1⟩
    · cases hf
theorem shs_of {held : Bool} {spare : Nat → Bool} : ∀ (n m : Nat) (fs : List Field) (xs : List (DataW H × List MemPlace)) (cs : List Value), shOks P m fs = true → xs.length = fs.length →
    (∀ (i : Nat) (f : Field), fs[i]? = some f → DataW.trod enc P W 0 spare held n f.type ((cs.drop f.offset).take (P.cellsOf f.type)) = xs[i]?) → ShTs P m fs (absDs (xs.map (·.1)))
  | n, m, [], [], cs, hf, hl, h => by cases m <;> simp [absDs, ShTs]
  | n, m, [], x :: xs, cs, hf, hl, h => by simp at hl
  | n, m, f :: fs, [], cs, hf, hl, h => by simp at hl
  | n, 0, f :: fs, x :: xs, cs, hf, hl, h => by simp [shOks] at hf
  | n, m + 1, f :: fs, x :: xs, cs, hf, hl, h => by
    simp only [shOks, Bool.and_eq_true] at hf
    simp only [List.map_cons, absDs, ShTs]
    have h0 := h 0 f rfl
    exact ⟨sh_of n m f.type _ x hf.1 h0, shs_of n m fs xs cs hf.2 (by simpa using hl) (fun i f hf => by simpa using h (i + 1) f (by simpa using hf))⟩
end

theorem ok_agg {b : Nat} {m : Nat} {t : TypeId} {v : Value} {x : AV} (hp : shOk P m t = true) (hs : ShT P m t x) (h : Value.okWide P W .any b t v) : x.isAgg = vAgg v := by
  cases m with
  | zero => simp [shOk] at hp
  | succ m =>
    unfold Value.okWide at h
    unfold ShT at hs
    unfold shOk at hp
    split at hp
    · rename_i hu; simp only [hu] at hs h; obtain ⟨_, rfl⟩ := hs; unfold Cell.okWide at h; cases v <;> simp_all [Cell.ok, vAgg, AV.isAgg]
    · rename_i hu; simp only [hu] at hs h; obtain ⟨_, rfl, _⟩ := hs; unfold Cell.okWide at h; cases v <;> simp_all [Cell.ok, vAgg, AV.isAgg]
    · rename_i hu; simp only [hu] at hs h; obtain ⟨_, rfl⟩ := hs; unfold Cell.okWide at h; cases v <;> simp_all [Cell.ok, vAgg, AV.isAgg]
    · rename_i hu; simp only [hu] at hs h; obtain ⟨_, _, rfl, _⟩ := hs; unfold Cell.okWide at h; cases v <;> simp_all [Cell.ok, vAgg, AV.isAgg]
    · rename_i hu; simp only [hu] at hs h; obtain ⟨_, rfl, _⟩ := hs; obtain ⟨cs, rfl, _⟩ := h; simp [AV.isAgg, vAgg]
    · rename_i hu; simp only [hu] at hs h; obtain ⟨_, rfl⟩ := hs; obtain ⟨cs, rfl, _⟩ := h; simp [AV.isAgg, vAgg]
    · cases hp


theorem args_stay {W' : World} (hl : laidOutB P = true) (hb : Below W.heap.size W W') : ∀ (ts : List TypeId) (vs : List Value) (ds : List (DataW H)) (ps : List MemPlace), (ts.all fun t => P.readableRec t && decide (t < P.types.size)) = true →
    DataW.TrodAll enc P W 0 (fun _ => true) true ts vs ds ps → DataW.TrodAll enc P W' 0 (fun b => decide (b < W.heap.size)) true ts vs ds ps
  | [], [], [], ps, hp, h => h
  | t :: ts, v :: vs, d :: ds, ps, hp, h => by
    obtain ⟨p, q, hd, hr, rfl⟩ := h
    simp only [List.all_cons, Bool.and_eq_true, decide_eq_true_eq] at hp
    refine ⟨p, q, Below.trod hl hp.1.1 hp.1.2 hd hb ?_, args_stay hl hb ts vs ds q hp.2 hr, rfl⟩
    obtain ⟨m, hm⟩ := hd
    exact DataW.trod_lt m _ _ _ hm
  | [], _ :: _, _, _, _, h => h.elim
  | [], [], _ :: _, _, _, h => h.elim
  | _ :: _, [], _, _, _, h => h.elim
  | _ :: _, _ :: _, [], _, _, h => h.elim

theorem trodAll_len : ∀ (ts : List TypeId) (vs : List Value) (ds : List (DataW H)) (ps : List MemPlace) {sp : Nat → Bool}, DataW.TrodAll enc P W 0 sp true ts vs ds ps → ds.length = ts.length
  | [], [], [], ps, sp, h => rfl
  | t :: ts, v :: vs, d :: ds, ps, sp, h => by
    obtain ⟨p, q, hd, hr, rfl⟩ := h
    simp [trodAll_len ts vs ds q hr]
  | [], _ :: _, _, _, _, h => h.elim
  | [], [], _ :: _, _, _, h => h.elim
  | _ :: _, [], _, _, _, h => h.elim
  | _ :: _, _ :: _, [], _, _, h => h.elim

theorem trodVars_nil {gs : List (DataW H)} {q : List MemPlace} (h : DataW.TrodVars enc P W (fun _ => true) [] gs q) : gs = [] ∧ q = [] := by
  cases gs with
  | nil => exact ⟨rfl, h⟩
  | cons d r => exact h.elim

theorem shAll_nil {n : Nat} {vs : List AV} (h : ShAll P n [] vs) : vs = [] := by
  cases vs with
  | nil => rfl
  | cons _ _ => exact h.elim
theorem shAll_cons {n : Nat} {t : TypeId} {ts : List TypeId} {vs : List AV} (h : ShAll P n (t :: ts) vs) : ∃ v r, vs = v :: r ∧ ShT P n t v ∧ ShAll P n ts r := by
  cases vs with
  | nil => exact h.elim
  | cons v r => exact ⟨v, r, rfl, h.1, h.2⟩
theorem sh_int {n : Nat} {t : TypeId} {k : IntKind} {v : AV} (hu : P.underlying t = some (.int k)) (h : ShT P (n + 1) t v) : ∃ i, v = .int k i ∧ k.min ≤ i ∧ i ≤ k.max := by
  unfold ShT at h; rw [hu] at h; exact h
theorem sh_str {n : Nat} {t : TypeId} {v : AV} (hu : P.underlying t = some .string) (h : ShT P (n + 1) t v) : ∃ s, v = .str s := by
  unfold ShT at h; rw [hu] at h; exact h
theorem sh_slice {n : Nat} {t e : TypeId} {v : AV} (hu : P.underlying t = some (.slice e)) (h : ShT P (n + 1) t v) : ∃ tk xs, v = .slice tk xs ∧ ∀ x ∈ xs, ShT P n e x := by
  unfold ShT at h; rw [hu] at h; exact h
theorem sh_struct {n : Nat} {t : TypeId} {fs : Array Field} {v : AV} (hu : P.underlying t = some (.struct fs)) (h : ShT P (n + 1) t v) : ∃ ps, v = .agg ps ∧ ShTs P n fs.toList ps := by
  unfold ShT at h; rw [hu] at h; exact h
theorem sh_dig {n k : Nat} {t e : TypeId} {v : AV} (hu : P.underlying t = some (.array k e)) (h : ShT P (n + 1) t v) : ∃ d, v = .dig d := by
  unfold ShT at h; rw [hu] at h; exact h
theorem shTs_nil {n : Nat} {ps : List AV} (h : ShTs P n [] ps) : ps = [] := by
  cases ps with
  | nil => rfl
  | cons _ _ => cases n <;> exact h.elim
theorem shTs_cons {n : Nat} {f : Field} {fs : List Field} {ps : List AV} (h : ShTs P (n + 1) (f :: fs) ps) : ∃ p r, ps = p :: r ∧ ShT P n f.type p ∧ ShTs P n fs r := by
  cases ps with
  | nil => exact h.elim
  | cons p r => exact ⟨p, r, rfl, h.1, h.2⟩
theorem map_of {α : Type} {f : α → AV} {p : α → Prop} : ∀ {xs : List AV}, (∀ x ∈ xs, ∃ a, x = f a ∧ p a) → ∃ l : List α, xs = l.map f ∧ ∀ a ∈ l, p a
  | [], h => ⟨[], rfl, by simp⟩
  | x :: r, h => by
    obtain ⟨a, ha, hp⟩ := h x (by simp)
    obtain ⟨l, hl, hq⟩ := map_of (xs := r) fun y hy => h y (by simp [hy])
    exact ⟨a :: l, by simp [ha, hl], by simpa using ⟨hp, hq⟩⟩

end Go.Aff

namespace Go.Aff

open Go.RowKit Go.ChangeShapes Go.WideShapes Go.ChangeAt Go.ChangeMaps

variable {H : Type} {enc : TypeId × Value → H} {P : Program}
variable {g : G} {W : World}

theorem args_rel_n {N : Nat} (hg : W.heap.size ≤ g.base) {base : Nat} : ∀ (ts : List TypeId) (vs : List Value) (ds : List (DataW H)) (ps : List MemPlace), (ts.all fun t => plainT P N t && shOk P N t) = true →
    DataW.TrodAll enc P W 0 (fun _ => true) true ts vs ds ps → (∀ (j : Nat) t v, ts[j]? = some t → vs[j]? = some v → Value.okWide P W .any base t v) → relA g W (ds.map absD) vs ∧ ShAll P N ts (ds.map absD)
  | [], [], [], ps, hp, h, hv => ⟨⟨rfl, fun i v x h => by simp at h⟩, trivial⟩
  | t :: ts, v :: vs, d :: ds, ps, hp, h, hv => by
    obtain ⟨p, q, ⟨fuel, hd⟩, hr, rfl⟩ := h
    simp only [List.all_cons, Bool.and_eq_true] at hp
    have hok := hv 0 t v rfl rfl
    have h1 := plain_rel (g := g) hg (fun _ => rfl) fuel N t _ _ hp.1.1 hd
    have h2 := sh_of fuel N t _ _ hp.1.2 hd
    obtain ⟨⟨hl, hA⟩, hS⟩ := args_rel_n hg ts vs ds q hp.2 hr (fun j t v ht hv' => hv (j + 1) t v (by simpa using ht) (by simpa using hv'))
    refine ⟨⟨by simpa using hl, fun i u x hu hx => ?_⟩, h2, hS⟩
    cases i with
    | zero => simp at hu hx; subst hu hx; exact .inr (.inr ⟨h1, ok_agg hp.1.2 h2 hok⟩)
    | succ i => exact hA i u x (by simpa using hu) (by simpa using hx)
  | [], _ :: _, _, _, _, h, _ => h.elim
  | [], [], _ :: _, _, _, h, _ => h.elim
  | _ :: _, [], _, _, _, h, _ => h.elim
  | _ :: _, _ :: _, [], _, _, h, _ => h.elim


theorem lift_law_n {N : Nat} {C : Checked} {os : Os} {f : FuncId} {fn : Func} {s : ChangeSpec} {conds : List PathCond} {tb : TypeId} (own : ownKnob C.prog.godebug = none) (started : os.Started) (noInit : C.prog.inits.idxOf? f = none) (hfn : C.prog.funcs[f]? = some fn)
    (witness : ∃ (w : World) (tape : Tape) (i : Input), w.os = os ∧ (w.forCall tape i).Shaped C.prog ∧ i.vars = [] ∧ Input.okWide C.prog (w.forCall tape i) .any w.heap.size f i ∧
      s.pre6 enc C.prog fn conds false (w.forCall tape i).memory i.args ∧ Assume.holds {} C.prog (lone (Frame.enter C.prog f i.args .normal) [] (w.forCall tape i)))
    (hvars : s.vars = []) (hs : ∀ ds : List (DataW H), ds.length = fn.params.toList.length → s.fn H ds = { results := [.lit (.bool true)], args := ds }) (hl : laidOutB C.prog = true)
    (hp : (fn.params.toList.all fun t => plainT C.prog N t && shOk C.prog N t) = true) (hr : (fn.params.toList.all fun t => C.prog.readableRec t && decide (t < C.prog.types.size)) = true)
    (hres : fn.resultTypes = #[tb]) (hb : C.prog.underlying tb = some .bool)
    (law : ∀ vs, ShAll C.prog N fn.params.toList vs → TCalls C.prog f vs ⟨[], []⟩ fun v _ => v = .bool true) :
    ReturnsInHanded {} C os f .any (s.pre6 enc C.prog fn conds false) (s.post enc C.prog fn false true false false) := by
  refine returnsInHanded_of_change_sized own started noInit hfn witness ?_
  intro W base args ds gs before hval hW _ _ _
  obtain ⟨p, q, hA, hV, rfl, hfz, hnd⟩ := id hW
  rw [hvars] at hV
  obtain ⟨rfl, rfl⟩ := trodVars_nil hV
  let g0 : G := ⟨W.heap.size, [], fun _ => none, []⟩
  have hrel := args_rel_n (g := g0) (enc := enc) (P := C.prog) (W := W) (base := base) (Nat.le_refl _) fn.params.toList args.toList ds p hp hA (fun j t v ht hv => hval j t v (by simpa using ht) (by simpa using hv))
  have hI : Inv g0 ⟨[], []⟩ W := by
    refine ⟨Nat.le_refl _, rfl, ?_, ?_, ?_, rfl, ?_, ?_⟩
    · intro i o h; simp at h
    · intro i j o o' b sh sh' h; simp at h
    · intro b L h; cases h
    · intro t e h; simp [g0] at h
    · intro t u e e' b o o' h; simp [g0] at h
  refine ((law _ hrel.2).2 g0 W args hI hrel.1).mono ?_
  rintro e W' ⟨x, g', v, σ', he, hE, hI', hv, rfl⟩
  have hx : x = .bool true := relV_bool hv
  subst hx
  subst he
  have bel : Below W.heap.size W W' := ⟨hE.os, hE.tape, hE.output, hE.size, fun k hk => hE.old k hk⟩
  have hlen := trodAll_len _ _ _ _ hA
  refine ⟨_, rfl, ds, [], p ++ [], [], p, [], hW, ?_, ?_, ?_, bel.frame _, fun h => by cases h⟩
  · rw [List.append_nil, hs ds hlen, hres]
    exact trodAll_mk1 (shut_bool hb _)
  · rw [List.append_nil, hs ds hlen]
    exact args_stay hl bel _ _ _ _ hr hA
  · rw [List.append_nil, hs ds hlen, hvars]
    rfl


end Go.Aff

namespace Go.Aff.L01
open Go.Aff

def dg (n : Nat) : List UInt8 := if n < 10 then [UInt8.ofNat (48 + n)] else dg (n / 10) ++ [UInt8.ofNat (48 + n % 10)]

theorem dg_small {n : Nat} (h : n < 10) : dg n = [UInt8.ofNat (48 + n)] := by rw [dg, if_pos h]
theorem dg_big {n : Nat} (h : ¬ n < 10) : dg n = dg (n / 10) ++ [UInt8.ofNat (48 + n % 10)] := by rw [dg, if_neg h]
theorem dg_len : ∀ (k n : Nat), n < 10 ^ (k + 1) → (dg n).length ≤ k + 1
  | 0, n, h => by rw [dg_small (by simpa using h)]; simp
  | k + 1, n, h => by
    by_cases h10 : n < 10
    · rw [dg_small h10]; simp
    · rw [dg_big h10, List.length_append]
      have := dg_len k (n / 10) (by rw [Nat.div_lt_iff_lt_mul (by decide)]; rw [Nat.pow_succ] at h; exact h)
      simp; omega
theorem dg_len20 {n : Nat} (h : n < 18446744073709551616) : (dg n).length ≤ 20 := dg_len 19 n (Nat.lt_of_lt_of_le h (by decide))

def numS (n : Int) : List UInt8 := (if n < 0 then [45] else []) ++ dg n.natAbs ++ [59]
theorem numS_len {n : Int} (h0 : -9223372036854775808 ≤ n) (h1 : n ≤ 9223372036854775807) : (numS n).length ≤ 22 := by
  have := dg_len20 (n := n.natAbs) (by omega)
  unfold numS; split <;> simp <;> omega

end Go.Aff.L01

