import Derived.Test.YtndndlofepehiaaG20
import Derived.Test.YtndndlofepehiaaG25
import Derived.Test.YtndndlofepehiaaG19

set_option linter.unusedSimpArgs false
set_option linter.unusedVariables false

/- Drawn regions by trees of orders, where what was read need not stay for ever. -/
namespace Go.Aff
set_option linter.unusedVariables false
set_option linter.unusedSimpArgs false

variable {P : Program} {σ σ' : AST} {ops : Array Oper} {τ : Env} {KE : Env → AST → Prop}

/-- Orders with a word on each operation: 0: it reads, and that must stay; 1: it may leave something behind; 2: it reads, and stands ahead of all from the first on that leaves something behind; 3: it leaves nothing behind. -/
inductive Tu where
  | nil
  | op (i k : Nat) (r : Tu)
  | fork (e : Nat) (a b : Tu)
  | cut (r : Tu)
def Tu.tr : Tu → Tr
  | .nil => .nil
  | .op i _ r => .op i r.tr
  | .fork e a b => .fork e a.tr b.tr
  | .cut r => r.tr
def Tu.all : Tu → List Nat
  | .nil => []
  | .op i k r => if k = 1 ∨ k = 3 then i :: r.all else r.all
  | .fork _ a b => a.all ++ b.all
  | .cut r => r.all
/-- Those from the first on that may leave something behind. -/
def Tu.effs : Tu → List Nat
  | .nil => []
  | .op i k r => if k = 1 then i :: r.all else r.effs
  | .fork _ a b => a.effs ++ b.effs
  | .cut r => r.effs
theorem Tu.effs_all : ∀ {T : Tu} {x : Nat}, x ∈ T.effs → x ∈ T.all
  | .nil, x, h => h
  | .op i k r, x, h => by
    simp only [Tu.effs] at h
    simp only [Tu.all]
    split at h
    · rename_i hk; rw [if_pos (.inl hk)]; exact h
    · have := Tu.effs_all h
      split
      · exact List.mem_cons_of_mem _ this
      · exact this
  | .fork _ a b, x, h => by
    simp only [Tu.effs, Tu.all, List.mem_append] at h ⊢
    exact h.imp Tu.effs_all Tu.effs_all
  | .cut r, x, h => by
    simp only [Tu.effs] at h
    simp only [Tu.all]
    exact Tu.effs_all h

def seqU (P : Program) (ops : Array Oper) : Tu → List Nat → Env → AST → (Env → AST → Prop) → Prop
  | .nil, ks, τ, σ, K => K τ σ
  | .op i 1 r, ks, τ, σ, K => match gop ops i with
    | none => False
    | some o => stepW P ops o τ σ fun v σ' => keeps ks σ σ' ∧ seqU P ops r ks (τ.putO o.dst v) σ' K
  | .op i 0 r, ks, τ, σ, K => match gop ops i with
    | none => False
    | some o => stepW P ops o τ σ fun v σ' => σ' = σ ∧ seqU P ops r (reads (ev τ) o.op ++ ks) (τ.putO o.dst v) σ' K
  | .op i _ r, ks, τ, σ, K => match gop ops i with
    | none => False
    | some o => stepW P ops o τ σ fun v σ' => σ' = σ ∧ seqU P ops r ks (τ.putO o.dst v) σ' K
  | .fork _ a b, ks, τ, σ, K => seqU P ops a ks τ σ K ∧ seqU P ops b ks τ σ K
  | .cut r, ks, τ, σ, K => seqU P ops r [] τ σ K

def flagsU (P : Program) (ops : Array Oper) : Tu → List Nat → Bool
  | .nil, _ => true
  | .op i k r, zs => (match ops[i]? with
    | none => false
    | some o => effO P o == (k == 1 || k == 3)) && (k == 0 || k == 1 || k == 3 || r.effs.all fun y => ahead (anc ops) y i) && flagsU P ops r (if k = 0 then i :: zs else zs)
  | .fork _ a b, zs => flagsU P ops a zs && flagsU P ops b zs
  | .cut r, zs => (zs.all fun z => r.effs.all fun y => ahead (anc ops) y z) && flagsU P ops r []

def pastU (P : Program) (ops : Array Oper) (ks zs : List Nat) (past : List (Nat × Env × AV)) (T : Tu) (σ : AST) : Prop :=
  ∀ x ∈ past, (validT P ops x σ ∧ x.1 ∈ zs ∧ ∀ o, ops[x.1]? = some o → ∀ k ∈ reads (ev x.2.1) o.op, k ∈ ks) ∨ (validT P ops x σ ∧ ∀ y ∈ T.effs, ahead (anc ops) y x.1 = true) ∨ (∀ y ∈ T.all, ahead (anc ops) y x.1 = true)

theorem seqU_pure (i k : Nat) (r : Tu) (ks zs : List Nat) (past : List (Nat × Env × AV)) (τ : Env) (σ : AST) (k0 : k ≠ 0) (k1 : k ≠ 1) (k3 : k ≠ 3)
    (ih : ∀ (past' : List (Nat × Env × AV)) (τ' : Env), flagsU P ops r zs = true → pastU P ops ks zs past' r σ → (∀ t, lenOk (τ' t)) → seqU P ops r ks τ' σ KE → awpT P ops r.tr past' τ' σ KE)
    (hf : flagsU P ops (.op i k r) zs = true) (hp : pastU P ops ks zs past (.op i k r) σ) (hlen : ∀ t, lenOk (τ t))
    (h : match gop ops i with
      | none => False
      | some o => stepW P ops o τ σ fun v σ' => σ' = σ ∧ seqU P ops r ks (τ.putO o.dst v) σ' KE) : awpT P ops (Tu.op i k r).tr past τ σ KE := by
  split at h
  · exact h.elim
  · rename_i o hk
    have hk : ops[i]? = some o := hk
    simp only [flagsU, hk, Bool.and_eq_true, beq_iff_eq] at hf
    have b0 : (k == 0) = false := by simpa using k0
    have b1 : (k == 1) = false := by simpa using k1
    have b3 : (k == 3) = false := by simpa using k3
    rw [b0, b1, b3, if_neg k0] at hf
    have he : effO P o = false := by simpa using hf.1.1
    have hall : (r.effs.all fun y => ahead (anc ops) y i) = true := by simpa using hf.1.2
    rw [List.all_eq_true] at hall
    simp only [Tu.tr, awpT, hk, he, Bool.false_eq_true, if_false]
    obtain ⟨v, hv, hkk⟩ := stepW_det hlen he h
    refine hkk _ fun hlv => ih _ _ hf.2 ?_ hlv hv.2
    intro x hx
    rcases List.mem_cons.1 hx with rfl | hx
    · right; left
      refine ⟨fun o' ho' => ?_, hall⟩
      dsimp only at ho' ⊢
      rw [hk] at ho'; cases ho'
      exact ⟨hlen, he, hkk _ ⟨rfl, rfl⟩⟩
    · rcases hp x hx with ⟨h0, h1⟩ | ⟨h0, h1⟩ | h0
      · exact .inl ⟨h0, h1⟩
      · exact .inr (.inl ⟨h0, fun y hy => h1 y (by simpa [Tu.effs, k1] using hy)⟩)
      · exact .inr (.inr fun y hy => h0 y (by simpa [Tu.all, k1, k3] using hy))
theorem seqU_awpT : ∀ (T : Tu) (ks zs : List Nat) (past : List (Nat × Env × AV)) (τ : Env) (σ : AST), flagsU P ops T zs = true → pastU P ops ks zs past T σ → (∀ t, lenOk (τ t)) → seqU P ops T ks τ σ KE → awpT P ops T.tr past τ σ KE
  | .nil, ks, zs, past, τ, σ, hf, hp, hlen, h => h
  | .fork e a b, ks, zs, past, τ, σ, hf, hp, hlen, h => by
    simp only [flagsU, Bool.and_eq_true] at hf
    simp only [seqU] at h
    refine ⟨seqU_awpT a ks zs past τ σ hf.1 (fun x hx => ?_) hlen h.1, seqU_awpT b ks zs past τ σ hf.2 (fun x hx => ?_) hlen h.2⟩
    · rcases hp x hx with h | ⟨h1, h2⟩ | h
      · exact .inl h
      · exact .inr (.inl ⟨h1, fun y hy => h2 y (by simp [Tu.effs, hy])⟩)
      · exact .inr (.inr fun y hy => h y (by simp [Tu.all, hy]))
    · rcases hp x hx with h | ⟨h1, h2⟩ | h
      · exact .inl h
      · exact .inr (.inl ⟨h1, fun y hy => h2 y (by simp [Tu.effs, hy])⟩)
      · exact .inr (.inr fun y hy => h y (by simp [Tu.all, hy]))
  | .cut r, ks, zs, past, τ, σ, hf, hp, hlen, h => by
    simp only [flagsU, Bool.and_eq_true, List.all_eq_true] at hf
    simp only [seqU] at h
    refine seqU_awpT r [] [] past τ σ hf.2 (fun x hx => ?_) hlen h
    rcases hp x hx with ⟨h0, hz, _⟩ | ⟨h0, h1⟩ | h0
    · exact .inr (.inl ⟨h0, fun y hy => hf.1 x.1 hz y hy⟩)
    · exact .inr (.inl ⟨h0, fun y hy => h1 y (by simpa [Tu.effs] using hy)⟩)
    · exact .inr (.inr fun y hy => h0 y (by simpa [Tu.all] using hy))
  | .op i 1 r, ks, zs, past, τ, σ, hf, hp, hlen, h => by
    simp only [seqU] at h
    split at h
    · exact h.elim
    · rename_i o hk
      have hk : ops[i]? = some o := hk
      simp only [flagsU, hk, Bool.and_eq_true, beq_iff_eq] at hf
      have he : effO P o = true := by simpa using hf.1.1
      simp only [Tu.tr, awpT, hk, he, if_true]
      refine stepW_mono (fun v σ' hh => ?_) h
      refine ⟨fun x hx hah o ho => ?_, fun hlv => seqU_awpT r ks zs past _ _ (by simpa using hf.2) ?_ hlv hh.2⟩
      · rcases hp x hx with ⟨h0, hz, h3⟩ | ⟨_, h0⟩ | h0
        · obtain ⟨h1, h2, h4⟩ := h0 o ho
          exact step_same h1 h2 (fun k hk => hh.1 k (h3 o ho k hk)) h4
        · rw [h0 i (by simp [Tu.effs])] at hah; cases hah
        · rw [h0 i (by simp [Tu.all])] at hah; cases hah
      · intro x hx
        rcases hp x hx with ⟨h0, hz, h3⟩ | ⟨_, h0⟩ | h0
        · left
          refine ⟨fun o ho => ?_, hz, h3⟩
          obtain ⟨h1, h2, h4⟩ := h0 o ho
          exact ⟨h1, h2, step_same h1 h2 (fun k hk => hh.1 k (h3 o ho k hk)) h4⟩
        · right; right
          intro y hy; exact h0 y (by simp [Tu.effs, hy])
        · right; right
          intro y hy; exact h0 y (by simp [Tu.all, hy])
  | .op i 3 r, ks, zs, past, τ, σ, hf, hp, hlen, h => by
    simp only [seqU] at h
    split at h
    · exact h.elim
    · rename_i o hk
      have hk : ops[i]? = some o := hk
      simp only [flagsU, hk, Bool.and_eq_true, beq_iff_eq] at hf
      have he : effO P o = true := by simpa using hf.1.1
      simp only [Tu.tr, awpT, hk, he, if_true]
      refine stepW_mono (fun v σ' hh => ?_) h
      obtain ⟨rfl, hh⟩ := hh
      refine ⟨fun x hx hah o ho => ?_, fun hlv => seqU_awpT r ks zs past _ _ (by simpa using hf.2) ?_ hlv hh⟩
      · rcases hp x hx with ⟨h0, h3⟩ | ⟨h0, _⟩ | h0
        · exact (h0 o ho).2.2
        · exact (h0 o ho).2.2
        · rw [h0 i (by simp [Tu.all])] at hah; cases hah
      · intro x hx
        rcases hp x hx with h0 | ⟨h0, h1⟩ | h0
        · exact .inl h0
        · exact .inr (.inl ⟨h0, fun y hy => h1 y (by simpa [Tu.effs] using hy)⟩)
        · exact .inr (.inr fun y hy => h0 y (by simp [Tu.all, hy]))
  | .op i 0 r, ks, zs, past, τ, σ, hf, hp, hlen, h => by
    simp only [seqU] at h
    split at h
    · exact h.elim
    · rename_i o hk
      have hk : ops[i]? = some o := hk
      simp only [flagsU, hk, Bool.and_eq_true, beq_iff_eq] at hf
      have he : effO P o = false := by simpa using hf.1.1
      simp only [Tu.tr, awpT, hk, he, Bool.false_eq_true, if_false]
      obtain ⟨v, hv, hkk⟩ := stepW_det hlen he h
      refine hkk _ fun hlv => seqU_awpT r _ (i :: zs) _ _ _ (by simpa using hf.2) ?_ hlv hv.2
      intro x hx
      rcases List.mem_cons.1 hx with rfl | hx
      · left
        refine ⟨fun o' ho' => ?_, List.mem_cons_self .., fun o' ho' k hkr => ?_⟩
        · dsimp only at ho' ⊢
          rw [hk] at ho'; cases ho'
          exact ⟨hlen, he, hkk _ ⟨rfl, rfl⟩⟩
        · dsimp only at ho' hkr
          rw [hk] at ho'; cases ho'
          exact List.mem_append_left _ hkr
      · rcases hp x hx with ⟨h0, hz, h1⟩ | ⟨h0, h1⟩ | h0
        · exact .inl ⟨h0, List.mem_cons_of_mem _ hz, fun o' ho' k hkr => List.mem_append_right _ (h1 o' ho' k hkr)⟩
        · exact .inr (.inl ⟨h0, fun y hy => h1 y (by simpa [Tu.effs] using hy)⟩)
        · exact .inr (.inr fun y hy => h0 y (by simpa [Tu.all] using hy))
  | .op i 2 r, ks, zs, past, τ, σ, hf, hp, hlen, h => seqU_pure i 2 r ks zs past τ σ (by decide) (by decide) (by decide) (fun past' K' h1 h2 h3 h4 => seqU_awpT r ks zs past' _ σ h1 h2 h3 h4) hf hp hlen (by simpa only [seqU] using h)
  | .op i (n + 4) r, ks, zs, past, τ, σ, hf, hp, hlen, h => seqU_pure i (n + 4) r ks zs past τ σ (by omega) (by omega) (by omega) (fun past' K' h1 h2 h3 h4 => seqU_awpT r ks zs past' _ σ h1 h2 h3 h4) hf hp hlen (by simpa only [seqU] using h)

theorem awp_drawU {id : Nat} {ops : Array Oper} {Q : Exit → Env → AST → Prop} (T : Tu) (ho : (trOk P ops T.tr && flagsU P ops T []) = true) (h : seqU P ops T [] τ σ (Q .normal)) : awp P (.region id ops true) Q τ σ := by
  rw [Bool.and_eq_true] at ho
  exact awp_drawTree _ ho.1 fun hlen => seqU_awpT T [] [] [] τ σ ho.2 (fun x hx => by simp at hx) hlen h

def seqU0 (P : Program) (ops : Array Oper) (o : Option Oper) (r : Tu) (ks : List Nat) (τ : Env) (σ : AST) (K : Env → AST → Prop) : Prop := match o with
  | none => False
  | some o => stepW P ops o τ σ fun v σ' => σ' = σ ∧ seqU P ops r (reads (ev τ) o.op ++ ks) (τ.putO o.dst v) σ' K
def seqU1 (P : Program) (ops : Array Oper) (o : Option Oper) (r : Tu) (ks : List Nat) (τ : Env) (σ : AST) (K : Env → AST → Prop) : Prop := match o with
  | none => False
  | some o => stepW P ops o τ σ fun v σ' => keeps ks σ σ' ∧ seqU P ops r ks (τ.putO o.dst v) σ' K
def seqU2 (P : Program) (ops : Array Oper) (o : Option Oper) (r : Tu) (ks : List Nat) (τ : Env) (σ : AST) (K : Env → AST → Prop) : Prop := match o with
  | none => False
  | some o => stepW P ops o τ σ fun v σ' => σ' = σ ∧ seqU P ops r ks (τ.putO o.dst v) σ' K
variable {ks : List Nat}
theorem seqU_nil : seqU P ops .nil ks τ σ KE = KE τ σ := nr rfl
theorem seqU_1 {i : Nat} {r : Tu} : seqU P ops (.op i 1 r) ks τ σ KE = seqU1 P ops (gop ops i) r ks τ σ KE := by simp only [seqU, seqU1]
theorem seqU_0 {i : Nat} {r : Tu} : seqU P ops (.op i 0 r) ks τ σ KE = seqU0 P ops (gop ops i) r ks τ σ KE := by simp only [seqU, seqU0]
theorem seqU_3 {i : Nat} {r : Tu} : seqU P ops (.op i 3 r) ks τ σ KE = seqU2 P ops (gop ops i) r ks τ σ KE := by simp only [seqU, seqU2]
theorem seqU_2 {i : Nat} {r : Tu} : seqU P ops (.op i 2 r) ks τ σ KE = seqU2 P ops (gop ops i) r ks τ σ KE := by simp only [seqU, seqU2]
theorem seqU_cut {r : Tu} : seqU P ops (.cut r) ks τ σ KE = seqU P ops r [] τ σ KE := by simp only [seqU]
theorem seqU_fork {e : Nat} {a b : Tu} : seqU P ops (.fork e a b) ks τ σ KE = Both (@Later ⟨seqU P ops a ks τ σ KE⟩) (@Later ⟨seqU P ops b ks τ σ KE⟩) := by
  simp only [seqU, Later, eq_iff_iff]
  exact ⟨fun h => ⟨h.1, h.2⟩, fun h => ⟨h.l, h.r⟩⟩
theorem seqU1_some {o : Oper} {r : Tu} : seqU1 P ops (some o) r ks τ σ KE = stepW P ops o τ σ (@Lam ⟨fun v σ' => @Later ⟨keeps ks σ σ' ∧ seqU P ops r ks (τ.putO o.dst v) σ' KE⟩⟩) := nr rfl
theorem seqU0_some {o : Oper} {r : Tu} : seqU0 P ops (some o) r ks τ σ KE = stepW P ops o τ σ (@Lam ⟨fun v σ' => σ' = σ ∧ @Later ⟨seqU P ops r (reads (ev τ) o.op ++ ks) (τ.putO o.dst v) σ' KE⟩⟩) := nr rfl
theorem seqU2_some {o : Oper} {r : Tu} : seqU2 P ops (some o) r ks τ σ KE = stepW P ops o τ σ (@Lam ⟨fun v σ' => σ' = σ ∧ @Later ⟨seqU P ops r ks (τ.putO o.dst v) σ' KE⟩⟩) := nr rfl
attribute [go_sem ↓] seqU_nil seqU_0 seqU_1 seqU_2 seqU_3 seqU_fork seqU_cut seqU0_some seqU1_some seqU2_some
end Go.Aff

/- Walking: maps, makes. -/
namespace Go.Aff
set_option linter.unusedVariables false

variable {P : Program} {σ : AST} {ρ : Operand → AV} {K : AV → AST → Prop} {dst : Option Tmp} {ty : TypeId} {pos : String} {after : Array Edge} {gd : Option (Nat × Bool)}
theorem op_lookup {t : TypeId} {x k : Operand} {ok : Bool} : opW P ρ ⟨dst, .lookup t x k ok, ty, pos, after, gd⟩ σ K = lookupW P σ t (ρ x) (ρ k) ok (At K σ) := nr rfl
theorem op_mapUpdate {t : TypeId} {m k v : Operand} : opW P ρ ⟨dst, .mapUpdate t m k v, ty, pos, after, gd⟩ σ K = mapUpdateW P σ t (ρ m) (ρ k) (ρ v) (AtS K .undef) := nr rfl
theorem op_mapEntry {t : TypeId} {m k : Operand} : opW P ρ ⟨dst, .mapEntry t m k, ty, pos, after, gd⟩ σ K = mapEntryW P σ t (ρ m) (ρ k) K := nr rfl
theorem op_entryStore {t : TypeId} {m st v : Operand} : opW P ρ ⟨dst, .entryStore t m st v, ty, pos, after, gd⟩ σ K = entryStoreW σ (ρ m) (ρ st) (ρ v) (AtS K .undef) := nr rfl
theorem op_makeMap {t : TypeId} : opW P ρ ⟨dst, .makeMap t none, ty, pos, after, gd⟩ σ K = K (.mp (some σ.objs.length)) (σ.push (.map [] 0)) := nr rfl
theorem op_makeSlice {t : TypeId} {n c : Operand} : opW P ρ ⟨dst, .makeSlice t n c, ty, pos, after, gd⟩ σ K = makeSliceW P t (ρ n) (ρ c) σ K := nr rfl
theorem op_delete {s x : Operand} {ts : Array TypeId} : opW P ρ ⟨dst, .call ⟨.builtin .delete, #[s, x], ts⟩, ty, pos, after, gd⟩ σ K = deleteW P ts (ρ s) (ρ x) σ (AtS K (.tuple [])) := nr rfl
theorem op_clear {s : Operand} {ts : Array TypeId} : opW P ρ ⟨dst, .call ⟨.builtin .clear, #[s], ts⟩, ty, pos, after, gd⟩ σ K = clearW P ts (ρ s) σ (AtS K (.tuple [])) := nr rfl
theorem op_range {t : TypeId} {x : Operand} : opW P ρ ⟨dst, .range t x, ty, pos, after, gd⟩ σ K = rangeW P σ t (ρ x) K := nr rfl
theorem op_next {x : Operand} {s : Bool} : opW P ρ ⟨dst, .next x s, ty, pos, after, gd⟩ σ K = nextW σ (ρ x) s K := nr rfl
theorem op_entry {x : Operand} : opW P ρ ⟨dst, .entry x, ty, pos, after, gd⟩ σ K = entryW σ (ρ x) (At K σ) := nr rfl
attribute [go_sem ↓] op_range op_next op_entry op_lookup op_mapUpdate op_mapEntry op_entryStore op_makeMap op_makeSlice op_delete op_clear
end Go.Aff

/- Layer 12: structs. -/
namespace Go.Aff.L10
open Go.Proofs Go.Aff Go.Aff.L01 Classical
set_option linter.unusedVariables false
set_option linter.unusedSimpArgs false
set_option maxRecDepth 20000
structure Cli where
  last : Sub
  reply : Rep
  view : List UInt8
  tag : Dig
def cli0 : Cli := ⟨sub0, rep0, [], dig0⟩
def cliPs (t0 : Tk) (x : Cli) : List AV := [.agg (subPs x.last), .agg (repPs t0 x.reply), .str x.view, .dig x.tag]
abbrev cliV (t0 : Tk) (x : Cli) : AV := .agg (cliPs t0 x)
theorem cliPs_0 {t0 : Tk} {x : Cli} : (cliPs t0 x)[0]? = some (.agg (subPs x.last)) := nr rfl
theorem cliAt_0 {t0 : Tk} {x : Cli} {v : AV} : partIs Try.prog 65 (cliPs t0 x) 0 v = fits Try.prog 34 v := by rw [partIs_of (o := 0) (T := 34) (by kernel_rfl)]; simp [cliPs, AV.sizes, AV.size]
theorem cliSet_0 {t0 : Tk} {x : Cli} {y : Sub} : (cliPs t0 x).set 0 (.agg (subPs y)) = cliPs t0 { x with last := y } := nr rfl
theorem cliPs_1 {t0 : Tk} {x : Cli} : (cliPs t0 x)[1]? = some (.agg (repPs t0 x.reply)) := nr rfl
theorem cliAt_1 {t0 : Tk} {x : Cli} {v : AV} : partIs Try.prog 65 (cliPs t0 x) 1 v = fits Try.prog 43 v := by rw [partIs_of (o := 68) (T := 43) (by kernel_rfl)]; simp [cliPs, AV.sizes, AV.size, sizes_sub]
theorem cliSet_1 {t0 : Tk} {u0 : Tk} {x : Cli} {y : Rep} : (cliPs t0 x).set 1 (.agg (repPs u0 y)) = cliPs u0 { x with reply := y } := nr rfl
theorem cliPs_2 {t0 : Tk} {x : Cli} : (cliPs t0 x)[2]? = some (.str x.view) := nr rfl
theorem cliAt_2 {t0 : Tk} {x : Cli} {v : AV} : partIs Try.prog 65 (cliPs t0 x) 2 v = fits Try.prog 9 v := by rw [partIs_of (o := 171) (T := 9) (by kernel_rfl)]; simp [cliPs, AV.sizes, AV.size, sizes_sub, sizes_rep]
theorem cliSet_2 {t0 : Tk} {x : Cli} {y : List UInt8} : (cliPs t0 x).set 2 (.str y) = cliPs t0 { x with view := y } := nr rfl
theorem cliPs_3 {t0 : Tk} {x : Cli} : (cliPs t0 x)[3]? = some (.dig x.tag) := nr rfl
theorem cliAt_3 {t0 : Tk} {x : Cli} {v : AV} : partIs Try.prog 65 (cliPs t0 x) 3 v = fits Try.prog 32 v := by rw [partIs_of (o := 172) (T := 32) (by kernel_rfl)]; simp [cliPs, AV.sizes, AV.size, sizes_sub, sizes_rep]
theorem cliSet_3 {t0 : Tk} {x : Cli} {y : Dig} : (cliPs t0 x).set 3 (.dig y) = cliPs t0 { x with tag := y } := nr rfl
theorem sizes_cli {t0 : Tk} {x : Cli} : AV.sizes (cliPs t0 x) = 204 := by simp [cliPs, AV.sizes, AV.size, sizes_sub, sizes_rep]
theorem shapes_cli {t0 : Tk} {x : Cli} : AV.shapes (cliPs t0 x) = [.node [.leaf, .leaf, .leaf, .leaf, .dig, .dig], .node [.leaf, .leaf, .leaf, .dig, .leaf, .leaf, .leaf, .dig, .leaf, .dig], .leaf, .dig] := by simp [cliPs, AV.shapes, AV.shape, shapes_sub, shapes_rep]
theorem fits_cli {v : AV} : fits Try.prog 65 v = (v.isAgg = true ∧ v.size = 204) := fits_agg (by kernel_rfl) (by kernel_rfl)
theorem zero_cli : zeroA Try.prog 12 65 = .agg (cliPs .full cli0) := by kernel_rfl
theorem zt_cli : ZeroOf Try.prog 65 (.agg (cliPs .full cli0)) = True := eq_true ⟨_, _, rfl, rfl, rfl, rfl, rfl⟩
theorem built_cli : Built Try.prog 65 = True := eq_true (by unfold Built; rw [Try.underlying65]; decide +kernel)
structure Act12 where
  kind : Int
  client : Int
  x : Sub
  view : List UInt8
  tag : Dig
def act0 : Act12 := ⟨0, 0, sub0, [], dig0⟩
def actPs (x : Act12) : List AV := [.int .i64 x.kind, .int .i64 x.client, .agg (subPs x.x), .str x.view, .dig x.tag]
abbrev actV (x : Act12) : AV := .agg (actPs x)
theorem actPs_0 {x : Act12} : (actPs x)[0]? = some (.int .i64 x.kind) := nr rfl
theorem actAt_0 {x : Act12} {v : AV} : partIs Try.prog 36 (actPs x) 0 v = fits Try.prog 3 v := by rw [partIs_of (o := 0) (T := 3) (by kernel_rfl)]; simp [actPs, AV.sizes, AV.size]
theorem actSet_0 {x : Act12} {y : Int} : (actPs x).set 0 (.int .i64 y) = actPs { x with kind := y } := nr rfl
theorem actPs_1 {x : Act12} : (actPs x)[1]? = some (.int .i64 x.client) := nr rfl
theorem actAt_1 {x : Act12} {v : AV} : partIs Try.prog 36 (actPs x) 1 v = fits Try.prog 3 v := by rw [partIs_of (o := 1) (T := 3) (by kernel_rfl)]; simp [actPs, AV.sizes, AV.size]
theorem actSet_1 {x : Act12} {y : Int} : (actPs x).set 1 (.int .i64 y) = actPs { x with client := y } := nr rfl
theorem actPs_2 {x : Act12} : (actPs x)[2]? = some (.agg (subPs x.x)) := nr rfl
theorem actAt_2 {x : Act12} {v : AV} : partIs Try.prog 36 (actPs x) 2 v = fits Try.prog 34 v := by rw [partIs_of (o := 2) (T := 34) (by kernel_rfl)]; simp [actPs, AV.sizes, AV.size]
theorem actSet_2 {x : Act12} {y : Sub} : (actPs x).set 2 (.agg (subPs y)) = actPs { x with x := y } := nr rfl
theorem actPs_3 {x : Act12} : (actPs x)[3]? = some (.str x.view) := nr rfl
theorem actAt_3 {x : Act12} {v : AV} : partIs Try.prog 36 (actPs x) 3 v = fits Try.prog 9 v := by rw [partIs_of (o := 70) (T := 9) (by kernel_rfl)]; simp [actPs, AV.sizes, AV.size, sizes_sub]
theorem actSet_3 {x : Act12} {y : List UInt8} : (actPs x).set 3 (.str y) = actPs { x with view := y } := nr rfl
theorem actPs_4 {x : Act12} : (actPs x)[4]? = some (.dig x.tag) := nr rfl
theorem actAt_4 {x : Act12} {v : AV} : partIs Try.prog 36 (actPs x) 4 v = fits Try.prog 32 v := by rw [partIs_of (o := 71) (T := 32) (by kernel_rfl)]; simp [actPs, AV.sizes, AV.size, sizes_sub]
theorem actSet_4 {x : Act12} {y : Dig} : (actPs x).set 4 (.dig y) = actPs { x with tag := y } := nr rfl
theorem sizes_act {x : Act12} : AV.sizes (actPs x) = 103 := by simp [actPs, AV.sizes, AV.size, sizes_sub]
theorem shapes_act {x : Act12} : AV.shapes (actPs x) = [.leaf, .leaf, .node [.leaf, .leaf, .leaf, .leaf, .dig, .dig], .leaf, .dig] := by simp [actPs, AV.shapes, AV.shape, shapes_sub]
theorem fits_act {v : AV} : fits Try.prog 36 v = (v.isAgg = true ∧ v.size = 103) := fits_agg (by kernel_rfl) (by kernel_rfl)
theorem zero_act : zeroA Try.prog 12 36 = .agg (actPs act0) := by kernel_rfl
theorem zt_act : ZeroOf Try.prog 36 (.agg (actPs act0)) = True := eq_true ⟨_, _, rfl, rfl, rfl, rfl, rfl⟩
theorem built_act : Built Try.prog 36 = True := eq_true (by unfold Built; rw [Try.underlying36]; decide +kernel)
theorem strip_act {x : Act12} : AV.strips (actPs x) = actPs x := by simp [actPs, AV.strips, AV.strip, strip_sub]
theorem noRef_act {x : Act12} : AV.noRefs (actPs x) = true := by simp [actPs, AV.noRefs, AV.noRef, noRef_sub]
/-ATTR subPs_0 subAt_0 subSet_0 subPs_1 subAt_1 subSet_1 subPs_2 subAt_2 subSet_2 subPs_3 subAt_3 subSet_3 subPs_4 subAt_4 subSet_4 subPs_5 subAt_5 subSet_5 sizes_sub shapes_sub fits_sub zero_sub zt_sub built_sub Try.underlying34 pendPs_0 pendAt_0 pendSet_0 pendPs_1 pendAt_1 pendSet_1 pendPs_2 pendAt_2 pendSet_2 pendPs_3 pendAt_3 pendSet_3 pendPs_4 pendAt_4 pendSet_4 pendPs_5 pendAt_5 pendSet_5 sizes_pend shapes_pend fits_pend zero_pend zt_pend built_pend Try.underlying70 repPs_0 repAt_0 repSet_0 repPs_1 repAt_1 repSet_1 repPs_2 repAt_2 repSet_2 repPs_3 repAt_3 repSet_3 repPs_4 repAt_4 repSet_4 repPs_5 repAt_5 repSet_5 repPs_6 repAt_6 repSet_6 repPs_7 repAt_7 repSet_7 repPs_8 repAt_8 repSet_8 repPs_9 repAt_9 repSet_9 sizes_rep shapes_rep fits_rep zero_rep zt_rep built_rep Try.underlying43 cliPs_0 cliAt_0 cliSet_0 cliPs_1 cliAt_1 cliSet_1 cliPs_2 cliAt_2 cliSet_2 cliPs_3 cliAt_3 cliSet_3 sizes_cli shapes_cli fits_cli zero_cli zt_cli built_cli Try.underlying65 actPs_0 actAt_0 actSet_0 actPs_1 actAt_1 actSet_1 actPs_2 actAt_2 actSet_2 actPs_3 actAt_3 actSet_3 actPs_4 actAt_4 actSet_4 sizes_act shapes_act fits_act zero_act zt_act built_act Try.underlying36 -/
/-! The registers: an array of clients, each with an owner of its own. -/
structure Rg where
  n : Int
  cs : List (Tk × Cli)
  by_ : Int
  long : List UInt8
  tag : Dig
  pend : List Pend
def cliP (c : Tk × Cli) : AV := cliV c.1 c.2
def rgPs (t0 : Tk) (x : Rg) : List AV := [.int .i64 x.n, .agg (x.cs.map cliP), .int .i64 x.by_, .str x.long, .dig x.tag, .slice t0 (x.pend.map pendV)]
abbrev rgV (t0 : Tk) (x : Rg) : AV := .agg (rgPs t0 x)
theorem sizes_clis {cs : List (Tk × Cli)} : AV.sizes (cs.map cliP) = cs.length * 204 := by
  induction cs with
  | nil => rfl
  | cons c cs ih => simp only [List.map_cons, AV.sizes, ih, cliP, AV.size, sizes_cli, List.length_cons]; omega
def rg0 : Rg := ⟨0, List.replicate 8 (.full, cli0), 0, [], dig0, []⟩
section
variable {t0 u0 : Tk} {x : Rg} {v : AV}
theorem rgPs_0 : (rgPs t0 x)[0]? = some (.int .i64 x.n) := nr rfl
theorem rgPs_1 : (rgPs t0 x)[1]? = some (.agg (x.cs.map cliP)) := nr rfl
theorem rgPs_2 : (rgPs t0 x)[2]? = some (.int .i64 x.by_) := nr rfl
theorem rgPs_3 : (rgPs t0 x)[3]? = some (.str x.long) := nr rfl
theorem rgPs_4 : (rgPs t0 x)[4]? = some (.dig x.tag) := nr rfl
theorem rgPs_5 : (rgPs t0 x)[5]? = some (.slice t0 (x.pend.map pendV)) := nr rfl
theorem rgSet_0 {y : Int} : (rgPs t0 x).set 0 (.int .i64 y) = rgPs t0 { x with n := y } := nr rfl
theorem rgSet_2 {y : Int} : (rgPs t0 x).set 2 (.int .i64 y) = rgPs t0 { x with by_ := y } := nr rfl
theorem rgSet_3 {y : List UInt8} : (rgPs t0 x).set 3 (.str y) = rgPs t0 { x with long := y } := nr rfl
theorem rgSet_4 {y : Dig} : (rgPs t0 x).set 4 (.dig y) = rgPs t0 { x with tag := y } := nr rfl
theorem rgSet_5 {y : List Pend} : (rgPs t0 x).set 5 (.slice u0 (y.map pendV)) = rgPs u0 { x with pend := y } := nr rfl
theorem rgAt_0 : partIs Try.prog 68 (rgPs t0 x) 0 v = fits Try.prog 3 v := by rw [partIs_of (o := 0) (T := 3) (by kernel_rfl)]; simp [rgPs, AV.sizes, AV.size]
theorem rgAt_1 : partIs Try.prog 68 (rgPs t0 x) 1 v = fits Try.prog 66 v := by rw [partIs_of (o := 1) (T := 66) (by kernel_rfl)]; simp [rgPs, AV.sizes, AV.size]
theorem rgAt_2 (h : x.cs.length = 8) : partIs Try.prog 68 (rgPs t0 x) 2 v = fits Try.prog 3 v := by rw [partIs_of (o := 1633) (T := 3) (by kernel_rfl)]; simp [rgPs, AV.sizes, AV.size, sizes_clis, h]
theorem rgAt_3 (h : x.cs.length = 8) : partIs Try.prog 68 (rgPs t0 x) 3 v = fits Try.prog 9 v := by rw [partIs_of (o := 1634) (T := 9) (by kernel_rfl)]; simp [rgPs, AV.sizes, AV.size, sizes_clis, h]
theorem rgAt_4 (h : x.cs.length = 8) : partIs Try.prog 68 (rgPs t0 x) 4 v = fits Try.prog 32 v := by rw [partIs_of (o := 1635) (T := 32) (by kernel_rfl)]; simp [rgPs, AV.sizes, AV.size, sizes_clis, h]
theorem rgAt_5 (h : x.cs.length = 8) : partIs Try.prog 68 (rgPs t0 x) 5 v = fits Try.prog 41 v := by rw [partIs_of (o := 1667) (T := 41) (by kernel_rfl)]; simp [rgPs, AV.sizes, AV.size, sizes_clis, h]
theorem sizes_rg (h : x.cs.length = 8) : AV.sizes (rgPs t0 x) = 1668 := by simp [rgPs, AV.sizes, AV.size, sizes_clis, h]
end
theorem fits_rg {v : AV} : fits Try.prog 68 v = (v.isAgg = true ∧ v.size = 1668) := fits_agg (by kernel_rfl) (by kernel_rfl)
theorem zero_rg : zeroA Try.prog 12 68 = .agg (rgPs .full rg0) := by kernel_rfl
theorem zt_rg : ZeroOf Try.prog 68 (.agg (rgPs .full rg0)) = True := eq_true ⟨_, _, rfl, rfl, rfl, rfl, rfl⟩
theorem built_rg : Built Try.prog 68 = True := eq_true (by unfold Built; rw [Try.underlying68]; decide +kernel)
theorem fits66 {v : AV} : fits Try.prog 66 v = (v.isAgg = true ∧ v.size = 1632) := fits_agg (by kernel_rfl) (by kernel_rfl)
/-- A row of memory as a slice (none: nil). -/
def arrV : Option (Nat × Nat) → AV
  | none => .slice .full []
  | some (i, n) => .arr i [] n
theorem arrV_none : arrV none = .slice .full [] := rfl
theorem arrV_some {i n : Nat} : arrV (some (i, n)) = .arr i [] n := rfl
theorem arrV_size {o : Option (Nat × Nat)} : (arrV o).size = 1 := by cases o <;> rfl
theorem arrV_agg {o : Option (Nat × Nat)} : (arrV o).isAgg = false := by cases o <;> rfl
theorem arrV_shape {o : Option (Nat × Nat)} : (arrV o).shape = .leaf := by cases o <;> rfl
/-- The reference's registers. -/
structure RRg where
  subs : Option (Nat × Nat)
  reps : Option (Nat × Nat)
  views : Option (Nat × Nat)
  tags : Option (Nat × Nat)
  by_ : Int
  long : List UInt8
  tag : Dig
  pend : List Pend
def rrg0 : RRg := ⟨none, none, none, none, 0, [], dig0, []⟩
def rrgPs (t0 : Tk) (x : RRg) : List AV := [arrV x.subs, arrV x.reps, arrV x.views, arrV x.tags, .int .i64 x.by_, .str x.long, .dig x.tag, .slice t0 (x.pend.map pendV)]
abbrev rrgV (t0 : Tk) (x : RRg) : AV := .agg (rrgPs t0 x)
section
variable {t0 u0 : Tk} {x : RRg} {v : AV}
theorem rrgPs_0 : (rrgPs t0 x)[0]? = some (arrV x.subs) := nr rfl
theorem rrgPs_1 : (rrgPs t0 x)[1]? = some (arrV x.reps) := nr rfl
theorem rrgPs_2 : (rrgPs t0 x)[2]? = some (arrV x.views) := nr rfl
theorem rrgPs_3 : (rrgPs t0 x)[3]? = some (arrV x.tags) := nr rfl
theorem rrgPs_4 : (rrgPs t0 x)[4]? = some (.int .i64 x.by_) := nr rfl
theorem rrgPs_5 : (rrgPs t0 x)[5]? = some (.str x.long) := nr rfl
theorem rrgPs_6 : (rrgPs t0 x)[6]? = some (.dig x.tag) := nr rfl
theorem rrgPs_7 : (rrgPs t0 x)[7]? = some (.slice t0 (x.pend.map pendV)) := nr rfl
theorem rrgSet_0 {i n : Nat} : (rrgPs t0 x).set 0 (.arr i [] n) = rrgPs t0 { x with subs := some (i, n) } := nr rfl
theorem rrgSet_1 {i n : Nat} : (rrgPs t0 x).set 1 (.arr i [] n) = rrgPs t0 { x with reps := some (i, n) } := nr rfl
theorem rrgSet_2 {i n : Nat} : (rrgPs t0 x).set 2 (.arr i [] n) = rrgPs t0 { x with views := some (i, n) } := nr rfl
theorem rrgSet_3 {i n : Nat} : (rrgPs t0 x).set 3 (.arr i [] n) = rrgPs t0 { x with tags := some (i, n) } := nr rfl
theorem rrgSet_4 {y : Int} : (rrgPs t0 x).set 4 (.int .i64 y) = rrgPs t0 { x with by_ := y } := nr rfl
theorem rrgSet_5 {y : List UInt8} : (rrgPs t0 x).set 5 (.str y) = rrgPs t0 { x with long := y } := nr rfl
theorem rrgSet_6 {y : Dig} : (rrgPs t0 x).set 6 (.dig y) = rrgPs t0 { x with tag := y } := nr rfl
theorem rrgSet_7 {y : List Pend} : (rrgPs t0 x).set 7 (.slice u0 (y.map pendV)) = rrgPs u0 { x with pend := y } := nr rfl
theorem rrgAt_0 : partIs Try.prog 61 (rrgPs t0 x) 0 v = fits Try.prog 57 v := by rw [partIs_of (o := 0) (T := 57) (by kernel_rfl)]; simp [rrgPs, AV.sizes, AV.size, arrV_size]
theorem rrgAt_1 : partIs Try.prog 61 (rrgPs t0 x) 1 v = fits Try.prog 58 v := by rw [partIs_of (o := 1) (T := 58) (by kernel_rfl)]; simp [rrgPs, AV.sizes, AV.size, arrV_size]
theorem rrgAt_2 : partIs Try.prog 61 (rrgPs t0 x) 2 v = fits Try.prog 39 v := by rw [partIs_of (o := 2) (T := 39) (by kernel_rfl)]; simp [rrgPs, AV.sizes, AV.size, arrV_size]
theorem rrgAt_3 : partIs Try.prog 61 (rrgPs t0 x) 3 v = fits Try.prog 59 v := by rw [partIs_of (o := 3) (T := 59) (by kernel_rfl)]; simp [rrgPs, AV.sizes, AV.size, arrV_size]
theorem rrgAt_4 : partIs Try.prog 61 (rrgPs t0 x) 4 v = fits Try.prog 3 v := by rw [partIs_of (o := 4) (T := 3) (by kernel_rfl)]; simp [rrgPs, AV.sizes, AV.size, arrV_size]
theorem rrgAt_5 : partIs Try.prog 61 (rrgPs t0 x) 5 v = fits Try.prog 9 v := by rw [partIs_of (o := 5) (T := 9) (by kernel_rfl)]; simp [rrgPs, AV.sizes, AV.size, arrV_size]
theorem rrgAt_6 : partIs Try.prog 61 (rrgPs t0 x) 6 v = fits Try.prog 32 v := by rw [partIs_of (o := 6) (T := 32) (by kernel_rfl)]; simp [rrgPs, AV.sizes, AV.size, arrV_size]
theorem rrgAt_7 : partIs Try.prog 61 (rrgPs t0 x) 7 v = fits Try.prog 41 v := by rw [partIs_of (o := 38) (T := 41) (by kernel_rfl)]; simp [rrgPs, AV.sizes, AV.size, arrV_size]
theorem sizes_rrg : AV.sizes (rrgPs t0 x) = 39 := by simp [rrgPs, AV.sizes, AV.size, arrV_size]
theorem shapes_rrg : AV.shapes (rrgPs t0 x) = [.leaf, .leaf, .leaf, .leaf, .leaf, .leaf, .dig, .leaf] := by simp [rrgPs, AV.shapes, AV.shape, arrV_shape]
end
theorem fits_rrg {v : AV} : fits Try.prog 61 v = (v.isAgg = true ∧ v.size = 39) := fits_agg (by kernel_rfl) (by kernel_rfl)
theorem zero_rrg : zeroA Try.prog 12 61 = .agg (rrgPs .full rrg0) := by kernel_rfl
theorem zt_rrg : ZeroOf Try.prog 61 (.agg (rrgPs .full rrg0)) = True := eq_true ⟨_, _, rfl, rfl, rfl, rfl, rfl⟩
theorem built_rrg : Built Try.prog 61 = True := eq_true (by unfold Built; rw [Try.underlying61]; decide +kernel)
theorem fits57 {v : AV} : fits Try.prog 57 v = (v.isAgg = false ∧ v.size = 1) := fits_leaf (by kernel_rfl) (by kernel_rfl)
theorem fits58 {v : AV} : fits Try.prog 58 v = (v.isAgg = false ∧ v.size = 1) := fits_leaf (by kernel_rfl) (by kernel_rfl)
theorem fits39 {v : AV} : fits Try.prog 39 v = (v.isAgg = false ∧ v.size = 1) := fits_leaf (by kernel_rfl) (by kernel_rfl)
theorem fits59 {v : AV} : fits Try.prog 59 v = (v.isAgg = false ∧ v.size = 1) := fits_leaf (by kernel_rfl) (by kernel_rfl)
theorem fits23r {v : AV} : fits Try.prog 23 v = (v.isAgg = false ∧ v.size = 1) := fits_leaf (by kernel_rfl) (by kernel_rfl)
theorem fits41 {v : AV} : fits Try.prog 41 v = (v.isAgg = false ∧ v.size = 1) := fits_leaf (by kernel_rfl) (by kernel_rfl)
end Go.Aff.L10

/- Layer 9, plainly: how many, where, up to where; beginnings. -/
namespace Go.Aff.L09
set_option linter.unusedVariables false
set_option linter.unusedSimpArgs false

def isC (c : Int) (b : UInt8) : Bool := decide ((b.toNat : Int) = c)
def cnt (c : Int) (h : List UInt8) : Nat := h.countP (isC c)
/-- The place of a client's operation: from place i on, k of it before. -/
def placeL (c n : Int) : List UInt8 → Nat → Nat → Int
  | [], _, _ => -1
  | b :: r, i, k => if isC c b = true then (if ((k + 1 : Nat) : Int) = n then (i : Int) else placeL c n r (i + 1) (k + 1)) else placeL c n r (i + 1) k
def place (h : List UInt8) (c n : Int) : Int := placeL c n h 0 0
/-- Up to a client's last operation. -/
def uptoL (c : Int) (h : List UInt8) : Nat → List UInt8
  | 0 => []
  | i + 1 => match h[i]? with
    | some b => if isC c b = true then h.take (i + 1) else uptoL c h i
    | none => uptoL c h i
def upto (h : List UInt8) (c : Int) : List UInt8 := uptoL c h h.length
def right (h : List UInt8) (n : Int) : Bool := h.all (fun b => decide ((b.toNat : Int) < n)) && decide (h.length ≤ 512 ∧ 1 ≤ n ∧ n ≤ 256)
def fit (a b : List UInt8) : Bool := decide (b <+: a ∨ a <+: b)
def longer (a b : List UInt8) : List UInt8 := if a <+: b then b else a

theorem cnt_le {c : Int} {h : List UInt8} : cnt c h ≤ h.length := List.countP_le_length
theorem cnt_nil {c : Int} : cnt c [] = 0 := rfl
theorem cnt_append {c : Int} {a b : List UInt8} : cnt c (a ++ b) = cnt c a + cnt c b := List.countP_append
theorem cnt_take {c : Int} {h : List UInt8} {i : Nat} {b : UInt8} (hb : h[i]? = some b) : cnt c (h.take (i + 1)) = cnt c (h.take i) + if isC c b = true then 1 else 0 := by
  rw [List.take_add_one, hb, cnt_append]
  simp only [Option.toList_some, cnt, List.countP_cons, List.countP_nil, Nat.zero_add]
theorem cnt_take_le {c : Int} {h : List UInt8} {i : Nat} : cnt c (h.take i) ≤ i := by
  have := cnt_le (c := c) (h := h.take i); simp at this; omega
theorem isC_self {b : UInt8} : isC (b.toNat : Int) b = true := by simp [isC]
theorem isC_other {a b : UInt8} (h : a ≠ b) : isC (a.toNat : Int) b = false := by
  simp only [isC, decide_eq_false_iff_not]
  intro e
  apply h
  have : b.toNat = a.toNat := by omega
  exact (UInt8.toNat_inj.1 this).symm
theorem placeL_step {c n : Int} {h : List UInt8} {i : Nat} {b : UInt8} (hb : h[i]? = some b) :
    placeL c n (h.drop i) i (cnt c (h.take i)) = if isC c b = true ∧ ((cnt c (h.take (i + 1)) : Nat) : Int) = n then (i : Int) else placeL c n (h.drop (i + 1)) (i + 1) (cnt c (h.take (i + 1))) := by
  rw [cnt_take hb]
  have hlt := (List.getElem?_eq_some_iff.1 hb).1
  have hd : h.drop i = b :: h.drop (i + 1) := by
    rw [List.drop_eq_getElem_cons hlt]; congr 1; exact (List.getElem?_eq_some_iff.1 hb).2
  rw [hd]
  simp only [placeL]
  cases hc : isC c b with
  | true => simp
  | false => simp
theorem placeL_end {c n : Int} {h : List UInt8} {k : Nat} : placeL c n (h.drop h.length) h.length k = -1 := by simp [placeL]
theorem placeL_range {c n : Int} : ∀ {r : List UInt8} {i k : Nat}, placeL c n r i k = -1 ∨ ((i : Int) ≤ placeL c n r i k ∧ placeL c n r i k < i + r.length)
  | [], i, k => .inl rfl
  | b :: r, i, k => by
    simp only [placeL]
    have h1 := placeL_range (c := c) (n := n) (r := r) (i := i + 1) (k := k + 1)
    have h2 := placeL_range (c := c) (n := n) (r := r) (i := i + 1) (k := k)
    split
    · split
      · right; simp; omega
      · rcases h1 with h | h
        · exact .inl h
        · right; simp only [List.length_cons]; omega
    · rcases h2 with h | h
      · exact .inl h
      · right; simp only [List.length_cons]; omega
end Go.Aff.L09

