import Derived.Test.YtjhldllkjmlabaaG19
import Derived.Test.YtjhldllkjmlabaaG17
import Derived.Test.YtjhldllkjmlabaaProg

set_option linter.unusedSimpArgs false
set_option linter.unusedVariables false

/- Drawn regions by trees of orders, where what was read need not stay for ever. -/
namespace Go.Aff
set_option linter.unusedVariables false
set_option linter.unusedSimpArgs false

variable {P : Program} {σ σ' : AST} {ops : Array Oper} {τ : Env} {KE : Env → AST → Prop}

/-- Orders with a word on each operation: 0: it reads, and that must stay; 1: it may leave something behind; 2: it reads, and stands ahead of all from the first on that leaves something behind; 3: it leaves nothing behind. -/
inductive Tu where
  | nil
  | op (i k : Nat) (r : Tu)
  | fork (e : Nat) (a b : Tu)
  | cut (r : Tu)
def Tu.tr : Tu → Tr
  | .nil => .nil
  | .op i _ r => .op i r.tr
  | .fork e a b => .fork e a.tr b.tr
  | .cut r => r.tr
def Tu.all : Tu → List Nat
  | .nil => []
  | .op i k r => if k = 1 ∨ k = 3 then i :: r.all else r.all
  | .fork _ a b => a.all ++ b.all
  | .cut r => r.all
/-- Those from the first on that may leave something behind. -/
def Tu.effs : Tu → List Nat
  | .nil => []
  | .op i k r => if k = 1 then i :: r.all else r.effs
  | .fork _ a b => a.effs ++ b.effs
  | .cut r => r.effs
theorem Tu.effs_all : ∀ {T : Tu} {x : Nat}, x ∈ T.effs → x ∈ T.all
  | .nil, x, h => h
  | .op i k r, x, h => by
    simp only [Tu.effs] at h
    simp only [Tu.all]
    split at h
    · rename_i hk; rw [if_pos (.inl hk)]; exact h
    · have := Tu.effs_all h
      split
      · exact List.mem_cons_of_mem _ this
      · exact this
  | .fork _ a b, x, h => by
    simp only [Tu.effs, Tu.all, List.mem_append] at h ⊢
    exact h.imp Tu.effs_all Tu.effs_all
  | .cut r, x, h => by
    simp only [Tu.effs] at h
    simp only [Tu.all]
    exact Tu.effs_all h

def seqU (P : Program) (ops : Array Oper) : Tu → List Nat → Env → AST → (Env → AST → Prop) → Prop
  | .nil, ks, τ, σ, K => K τ σ
  | .op i 1 r, ks, τ, σ, K => match gop ops i with
    | none => False
    | some o => stepW P ops o τ σ fun v σ' => keeps ks σ σ' ∧ seqU P ops r ks (τ.putO o.dst v) σ' K
  | .op i 0 r, ks, τ, σ, K => match gop ops i with
    | none => False
    | some o => stepW P ops o τ σ fun v σ' => σ' = σ ∧ seqU P ops r (reads (ev τ) o.op ++ ks) (τ.putO o.dst v) σ' K
  | .op i _ r, ks, τ, σ, K => match gop ops i with
    | none => False
    | some o => stepW P ops o τ σ fun v σ' => σ' = σ ∧ seqU P ops r ks (τ.putO o.dst v) σ' K
  | .fork _ a b, ks, τ, σ, K => seqU P ops a ks τ σ K ∧ seqU P ops b ks τ σ K
  | .cut r, ks, τ, σ, K => seqU P ops r [] τ σ K

def flagsU (P : Program) (ops : Array Oper) : Tu → List Nat → Bool
  | .nil, _ => true
  | .op i k r, zs => (match ops[i]? with
    | none => false
    | some o => effO P o == (k == 1 || k == 3)) && (k == 0 || k == 1 || k == 3 || r.effs.all fun y => ahead (anc ops) y i) && flagsU P ops r (if k = 0 then i :: zs else zs)
  | .fork _ a b, zs => flagsU P ops a zs && flagsU P ops b zs
  | .cut r, zs => (zs.all fun z => r.effs.all fun y => ahead (anc ops) y z) && flagsU P ops r []

def pastU (P : Program) (ops : Array Oper) (ks zs : List Nat) (past : List (Nat × Env × AV)) (T : Tu) (σ : AST) : Prop :=
  ∀ x ∈ past, (validT P ops x σ ∧ x.1 ∈ zs ∧ ∀ o, ops[x.1]? = some o → ∀ k ∈ reads (ev x.2.1) o.op, k ∈ ks) ∨ (validT P ops x σ ∧ ∀ y ∈ T.effs, ahead (anc ops) y x.1 = true) ∨ (∀ y ∈ T.all, ahead (anc ops) y x.1 = true)

theorem seqU_pure (i k : Nat) (r : Tu) (ks zs : List Nat) (past : List (Nat × Env × AV)) (τ : Env) (σ : AST) (k0 : k ≠ 0) (k1 : k ≠ 1) (k3 : k ≠ 3)
    (ih : ∀ (past' : List (Nat × Env × AV)) (τ' : Env), flagsU P ops r zs = true → pastU P ops ks zs past' r σ → (∀ t, lenOk (τ' t)) → seqU P ops r ks τ' σ KE → awpT P ops r.tr past' τ' σ KE)
    (hf : flagsU P ops (.op i k r) zs = true) (hp : pastU P ops ks zs past (.op i k r) σ) (hlen : ∀ t, lenOk (τ t))
    (h : match gop ops i with
      | none => False
      | some o => stepW P ops o τ σ fun v σ' => σ' = σ ∧ seqU P ops r ks (τ.putO o.dst v) σ' KE) : awpT P ops (Tu.op i k r).tr past τ σ KE := by
  split at h
  · exact h.elim
  · rename_i o hk
    have hk : ops[i]? = some o := hk
    simp only [flagsU, hk, Bool.and_eq_true, beq_iff_eq] at hf
    have b0 : (k == 0) = false := by simpa using k0
    have b1 : (k == 1) = false := by simpa using k1
    have b3 : (k == 3) = false := by simpa using k3
    rw [b0, b1, b3, if_neg k0] at hf
    have he : effO P o = false := by simpa using hf.1.1
    have hall : (r.effs.all fun y => ahead (anc ops) y i) = true := by simpa using hf.1.2
    rw [List.all_eq_true] at hall
    simp only [Tu.tr, awpT, hk, he, Bool.false_eq_true, if_false]
    obtain ⟨v, hv, hkk⟩ := stepW_det hlen he h
    refine hkk _ fun hlv => ih _ _ hf.2 ?_ hlv hv.2
    intro x hx
    rcases List.mem_cons.1 hx with rfl | hx
    · right; left
      refine ⟨fun o' ho' => ?_, hall⟩
      dsimp only at ho' ⊢
      rw [hk] at ho'; cases ho'
      exact ⟨hlen, he, hkk _ ⟨rfl, rfl⟩⟩
    · rcases hp x hx with ⟨h0, h1⟩ | ⟨h0, h1⟩ | h0
      · exact .inl ⟨h0, h1⟩
      · exact .inr (.inl ⟨h0, fun y hy => h1 y (by simpa [Tu.effs, k1] using hy)⟩)
      · exact .inr (.inr fun y hy => h0 y (by simpa [Tu.all, k1, k3] using hy))
theorem seqU_awpT : ∀ (T : Tu) (ks zs : List Nat) (past : List (Nat × Env × AV)) (τ : Env) (σ : AST), flagsU P ops T zs = true → pastU P ops ks zs past T σ → (∀ t, lenOk (τ t)) → seqU P ops T ks τ σ KE → awpT P ops T.tr past τ σ KE
  | .nil, ks, zs, past, τ, σ, hf, hp, hlen, h => h
  | .fork e a b, ks, zs, past, τ, σ, hf, hp, hlen, h => by
    simp only [flagsU, Bool.and_eq_true] at hf
    simp only [seqU] at h
    refine ⟨seqU_awpT a ks zs past τ σ hf.1 (fun x hx => ?_) hlen h.1, seqU_awpT b ks zs past τ σ hf.2 (fun x hx => ?_) hlen h.2⟩
    · rcases hp x hx with h | ⟨h1, h2⟩ | h
      · exact .inl h
      · exact .inr (.inl ⟨h1, fun y hy => h2 y (by simp [Tu.effs, hy])⟩)
      · exact .inr (.inr fun y hy => h y (by simp [Tu.all, hy]))
    · rcases hp x hx with h | ⟨h1, h2⟩ | h
      · exact .inl h
      · exact .inr (.inl ⟨h1, fun y hy => h2 y (by simp [Tu.effs, hy])⟩)
      · exact .inr (.inr fun y hy => h y (by simp [Tu.all, hy]))
  | .cut r, ks, zs, past, τ, σ, hf, hp, hlen, h => by
    simp only [flagsU, Bool.and_eq_true, List.all_eq_true] at hf
    simp only [seqU] at h
    refine seqU_awpT r [] [] past τ σ hf.2 (fun x hx => ?_) hlen h
    rcases hp x hx with ⟨h0, hz, _⟩ | ⟨h0, h1⟩ | h0
    · exact .inr (.inl ⟨h0, fun y hy => hf.1 x.1 hz y hy⟩)
    · exact .inr (.inl ⟨h0, fun y hy => h1 y (by simpa [Tu.effs] using hy)⟩)
    · exact .inr (.inr fun y hy => h0 y (by simpa [Tu.all] using hy))
  | .op i 1 r, ks, zs, past, τ, σ, hf, hp, hlen, h => by
    simp only [seqU] at h
    split at h
    · exact h.elim
    · rename_i o hk
      have hk : ops[i]? = some o := hk
      simp only [flagsU, hk, Bool.and_eq_true, beq_iff_eq] at hf
      have he : effO P o = true := by simpa using hf.1.1
      simp only [Tu.tr, awpT, hk, he, if_true]
      refine stepW_mono (fun v σ' hh => ?_) h
      refine ⟨fun x hx hah o ho => ?_, fun hlv => seqU_awpT r ks zs past _ _ (by simpa using hf.2) ?_ hlv hh.2⟩
      · rcases hp x hx with ⟨h0, hz, h3⟩ | ⟨_, h0⟩ | h0
        · obtain ⟨h1, h2, h4⟩ := h0 o ho
          exact step_same h1 h2 (fun k hk => hh.1 k (h3 o ho k hk)) h4
        · rw [h0 i (by simp [Tu.effs])] at hah; cases hah
        · rw [h0 i (by simp [Tu.all])] at hah; cases hah
      · intro x hx
        rcases hp x hx with ⟨h0, hz, h3⟩ | ⟨_, h0⟩ | h0
        · left
          refine ⟨fun o ho => ?_, hz, h3⟩
          obtain ⟨h1, h2, h4⟩ := h0 o ho
          exact ⟨h1, h2, step_same h1 h2 (fun k hk => hh.1 k (h3 o ho k hk)) h4⟩
        · right; right
          intro y hy; exact h0 y (by simp [Tu.effs, hy])
        · right; right
          intro y hy; exact h0 y (by simp [Tu.all, hy])
  | .op i 3 r, ks, zs, past, τ, σ, hf, hp, hlen, h => by
    simp only [seqU] at h
    split at h
    · exact h.elim
    · rename_i o hk
      have hk : ops[i]? = some o := hk
      simp only [flagsU, hk, Bool.and_eq_true, beq_iff_eq] at hf
      have he : effO P o = true := by simpa using hf.1.1
      simp only [Tu.tr, awpT, hk, he, if_true]
      refine stepW_mono (fun v σ' hh => ?_) h
      obtain ⟨rfl, hh⟩ := hh
      refine ⟨fun x hx hah o ho => ?_, fun hlv => seqU_awpT r ks zs past _ _ (by simpa using hf.2) ?_ hlv hh⟩
      · rcases hp x hx with ⟨h0, h3⟩ | ⟨h0, _⟩ | h0
        · exact (h0 o ho).2.2
        · exact (h0 o ho).2.2
        · rw [h0 i (by simp [Tu.all])] at hah; cases hah
      · intro x hx
        rcases hp x hx with h0 | ⟨h0, h1⟩ | h0
        · exact .inl h0
        · exact .inr (.inl ⟨h0, fun y hy => h1 y (by simpa [Tu.effs] using hy)⟩)
        · exact .inr (.inr fun y hy => h0 y (by simp [Tu.all, hy]))
  | .op i 0 r, ks, zs, past, τ, σ, hf, hp, hlen, h => by
    simp only [seqU] at h
    split at h
    · exact h.elim
    · rename_i o hk
      have hk : ops[i]? = some o := hk
      simp only [flagsU, hk, Bool.and_eq_true, beq_iff_eq] at hf
      have he : effO P o = false := by simpa using hf.1.1
      simp only [Tu.tr, awpT, hk, he, Bool.false_eq_true, if_false]
      obtain ⟨v, hv, hkk⟩ := stepW_det hlen he h
      refine hkk _ fun hlv => seqU_awpT r _ (i :: zs) _ _ _ (by simpa using hf.2) ?_ hlv hv.2
      intro x hx
      rcases List.mem_cons.1 hx with rfl | hx
      · left
        refine ⟨fun o' ho' => ?_, List.mem_cons_self .., fun o' ho' k hkr => ?_⟩
        · dsimp only at ho' ⊢
          rw [hk] at ho'; cases ho'
          exact ⟨hlen, he, hkk _ ⟨rfl, rfl⟩⟩
        · dsimp only at ho' hkr
          rw [hk] at ho'; cases ho'
          exact List.mem_append_left _ hkr
      · rcases hp x hx with ⟨h0, hz, h1⟩ | ⟨h0, h1⟩ | h0
        · exact .inl ⟨h0, List.mem_cons_of_mem _ hz, fun o' ho' k hkr => List.mem_append_right _ (h1 o' ho' k hkr)⟩
        · exact .inr (.inl ⟨h0, fun y hy => h1 y (by simpa [Tu.effs] using hy)⟩)
        · exact .inr (.inr fun y hy => h0 y (by simpa [Tu.all] using hy))
  | .op i 2 r, ks, zs, past, τ, σ, hf, hp, hlen, h => seqU_pure i 2 r ks zs past τ σ (by decide) (by decide) (by decide) (fun past' K' h1 h2 h3 h4 => seqU_awpT r ks zs past' _ σ h1 h2 h3 h4) hf hp hlen (by simpa only [seqU] using h)
  | .op i (n + 4) r, ks, zs, past, τ, σ, hf, hp, hlen, h => seqU_pure i (n + 4) r ks zs past τ σ (by omega) (by omega) (by omega) (fun past' K' h1 h2 h3 h4 => seqU_awpT r ks zs past' _ σ h1 h2 h3 h4) hf hp hlen (by simpa only [seqU] using h)

theorem awp_drawU {id : Nat} {ops : Array Oper} {Q : Exit → Env → AST → Prop} (T : Tu) (ho : (trOk P ops T.tr && flagsU P ops T []) = true) (h : seqU P ops T [] τ σ (Q .normal)) : awp P (.region id ops true) Q τ σ := by
  rw [Bool.and_eq_true] at ho
  exact awp_drawTree _ ho.1 fun hlen => seqU_awpT T [] [] [] τ σ ho.2 (fun x hx => by simp at hx) hlen h

def seqU0 (P : Program) (ops : Array Oper) (o : Option Oper) (r : Tu) (ks : List Nat) (τ : Env) (σ : AST) (K : Env → AST → Prop) : Prop := match o with
  | none => False
  | some o => stepW P ops o τ σ fun v σ' => σ' = σ ∧ seqU P ops r (reads (ev τ) o.op ++ ks) (τ.putO o.dst v) σ' K
def seqU1 (P : Program) (ops : Array Oper) (o : Option Oper) (r : Tu) (ks : List Nat) (τ : Env) (σ : AST) (K : Env → AST → Prop) : Prop := match o with
  | none => False
  | some o => stepW P ops o τ σ fun v σ' => keeps ks σ σ' ∧ seqU P ops r ks (τ.putO o.dst v) σ' K
def seqU2 (P : Program) (ops : Array Oper) (o : Option Oper) (r : Tu) (ks : List Nat) (τ : Env) (σ : AST) (K : Env → AST → Prop) : Prop := match o with
  | none => False
  | some o => stepW P ops o τ σ fun v σ' => σ' = σ ∧ seqU P ops r ks (τ.putO o.dst v) σ' K
variable {ks : List Nat}
theorem seqU_nil : seqU P ops .nil ks τ σ KE = KE τ σ := nr rfl
theorem seqU_1 {i : Nat} {r : Tu} : seqU P ops (.op i 1 r) ks τ σ KE = seqU1 P ops (gop ops i) r ks τ σ KE := by simp only [seqU, seqU1]
theorem seqU_0 {i : Nat} {r : Tu} : seqU P ops (.op i 0 r) ks τ σ KE = seqU0 P ops (gop ops i) r ks τ σ KE := by simp only [seqU, seqU0]
theorem seqU_3 {i : Nat} {r : Tu} : seqU P ops (.op i 3 r) ks τ σ KE = seqU2 P ops (gop ops i) r ks τ σ KE := by simp only [seqU, seqU2]
theorem seqU_2 {i : Nat} {r : Tu} : seqU P ops (.op i 2 r) ks τ σ KE = seqU2 P ops (gop ops i) r ks τ σ KE := by simp only [seqU, seqU2]
theorem seqU_cut {r : Tu} : seqU P ops (.cut r) ks τ σ KE = seqU P ops r [] τ σ KE := by simp only [seqU]
theorem seqU_fork {e : Nat} {a b : Tu} : seqU P ops (.fork e a b) ks τ σ KE = Both (@Later ⟨seqU P ops a ks τ σ KE⟩) (@Later ⟨seqU P ops b ks τ σ KE⟩) := by
  simp only [seqU, Later, eq_iff_iff]
  exact ⟨fun h => ⟨h.1, h.2⟩, fun h => ⟨h.l, h.r⟩⟩
theorem seqU1_some {o : Oper} {r : Tu} : seqU1 P ops (some o) r ks τ σ KE = stepW P ops o τ σ (@Lam ⟨fun v σ' => @Later ⟨keeps ks σ σ' ∧ seqU P ops r ks (τ.putO o.dst v) σ' KE⟩⟩) := nr rfl
theorem seqU0_some {o : Oper} {r : Tu} : seqU0 P ops (some o) r ks τ σ KE = stepW P ops o τ σ (@Lam ⟨fun v σ' => σ' = σ ∧ @Later ⟨seqU P ops r (reads (ev τ) o.op ++ ks) (τ.putO o.dst v) σ' KE⟩⟩) := nr rfl
theorem seqU2_some {o : Oper} {r : Tu} : seqU2 P ops (some o) r ks τ σ KE = stepW P ops o τ σ (@Lam ⟨fun v σ' => σ' = σ ∧ @Later ⟨seqU P ops r ks (τ.putO o.dst v) σ' KE⟩⟩) := nr rfl
attribute [go_sem ↓] seqU_nil seqU_0 seqU_1 seqU_2 seqU_3 seqU_fork seqU_cut seqU0_some seqU1_some seqU2_some
end Go.Aff

/- Walking: maps, makes. -/
namespace Go.Aff
set_option linter.unusedVariables false

variable {P : Program} {σ : AST} {ρ : Operand → AV} {K : AV → AST → Prop} {dst : Option Tmp} {ty : TypeId} {pos : String} {after : Array Edge} {gd : Option (Nat × Bool)}
theorem op_lookup {t : TypeId} {x k : Operand} {ok : Bool} : opW P ρ ⟨dst, .lookup t x k ok, ty, pos, after, gd⟩ σ K = lookupW P σ t (ρ x) (ρ k) ok (At K σ) := nr rfl
theorem op_mapUpdate {t : TypeId} {m k v : Operand} : opW P ρ ⟨dst, .mapUpdate t m k v, ty, pos, after, gd⟩ σ K = mapUpdateW P σ t (ρ m) (ρ k) (ρ v) (AtS K .undef) := nr rfl
theorem op_mapEntry {t : TypeId} {m k : Operand} : opW P ρ ⟨dst, .mapEntry t m k, ty, pos, after, gd⟩ σ K = mapEntryW P σ t (ρ m) (ρ k) K := nr rfl
theorem op_entryStore {t : TypeId} {m st v : Operand} : opW P ρ ⟨dst, .entryStore t m st v, ty, pos, after, gd⟩ σ K = entryStoreW σ (ρ m) (ρ st) (ρ v) (AtS K .undef) := nr rfl
theorem op_makeMap {t : TypeId} : opW P ρ ⟨dst, .makeMap t none, ty, pos, after, gd⟩ σ K = K (.mp (some σ.objs.length)) (σ.push (.map [] 0)) := nr rfl
theorem op_makeSlice {t : TypeId} {n c : Operand} : opW P ρ ⟨dst, .makeSlice t n c, ty, pos, after, gd⟩ σ K = makeSliceW P t (ρ n) (ρ c) σ K := nr rfl
theorem op_delete {s x : Operand} {ts : Array TypeId} : opW P ρ ⟨dst, .call ⟨.builtin .delete, #[s, x], ts⟩, ty, pos, after, gd⟩ σ K = deleteW P ts (ρ s) (ρ x) σ (AtS K (.tuple [])) := nr rfl
theorem op_clear {s : Operand} {ts : Array TypeId} : opW P ρ ⟨dst, .call ⟨.builtin .clear, #[s], ts⟩, ty, pos, after, gd⟩ σ K = clearW P ts (ρ s) σ (AtS K (.tuple [])) := nr rfl
theorem op_range {t : TypeId} {x : Operand} : opW P ρ ⟨dst, .range t x, ty, pos, after, gd⟩ σ K = rangeW P σ t (ρ x) K := nr rfl
theorem op_next {x : Operand} {s : Bool} : opW P ρ ⟨dst, .next x s, ty, pos, after, gd⟩ σ K = nextW σ (ρ x) s K := nr rfl
theorem op_entry {x : Operand} : opW P ρ ⟨dst, .entry x, ty, pos, after, gd⟩ σ K = entryW σ (ρ x) (At K σ) := nr rfl
attribute [go_sem ↓] op_range op_next op_entry op_lookup op_mapUpdate op_mapEntry op_entryStore op_makeMap op_makeSlice op_delete op_clear
end Go.Aff

/- Layer 1: what its functions are. Plain. -/
namespace Go.Aff.L01
open Go.Aff

/-- A number's digits. -/
def dg (n : Nat) : List UInt8 := if n < 10 then [UInt8.ofNat (48 + n)] else dg (n / 10) ++ [UInt8.ofNat (48 + n % 10)]

theorem dg_small {n : Nat} (h : n < 10) : dg n = [UInt8.ofNat (48 + n)] := by rw [dg, if_pos h]
theorem dg_big {n : Nat} (h : ¬ n < 10) : dg n = dg (n / 10) ++ [UInt8.ofNat (48 + n % 10)] := by rw [dg, if_neg h]
theorem dg_len : ∀ (k n : Nat), n < 10 ^ (k + 1) → (dg n).length ≤ k + 1
  | 0, n, h => by rw [dg_small (by simpa using h)]; simp
  | k + 1, n, h => by
    by_cases h10 : n < 10
    · rw [dg_small h10]; simp
    · rw [dg_big h10, List.length_append]
      have := dg_len k (n / 10) (by rw [Nat.div_lt_iff_lt_mul (by decide)]; rw [Nat.pow_succ] at h; exact h)
      simp; omega
theorem dg_len20 {n : Nat} (h : n < 18446744073709551616) : (dg n).length ≤ 20 := dg_len 19 n (Nat.lt_of_lt_of_le h (by decide))

def numS (n : Int) : List UInt8 := (if n < 0 then [45] else []) ++ dg n.natAbs ++ [59]
theorem numS_len {n : Int} (h0 : -9223372036854775808 ≤ n) (h1 : n ≤ 9223372036854775807) : (numS n).length ≤ 22 := by
  have := dg_len20 (n := n.natAbs) (by omega)
  unfold numS; split <;> simp <;> omega

end Go.Aff.L01

/- Layer 11, walked: what the others need of types. -/
namespace Go.Aff.L01
open Go.Proofs Go.Aff
set_option linter.unusedVariables false
set_option maxRecDepth 20000
set_option linter.unusedSimpArgs false
theorem mixed : Try.prog.follows .mixedOrders = true := rfl
theorem agg3 : aggT Try.prog 3 = some false := by kernel_rfl
theorem cells3 : Try.prog.cellsOf 3 = 1 := by kernel_rfl
theorem agg5 : aggT Try.prog 5 = some false := by kernel_rfl
theorem zero5 : ZeroOf Try.prog 5 (.int .u8 0) := ⟨_, _, rfl, rfl, rfl, rfl, rfl⟩
theorem E25 : ElemT Try.prog 37 3 1 8 := ⟨rfl, by kernel_rfl, by kernel_rfl, ⟨.int .i64 0, ⟨_, _, rfl, rfl, rfl, rfl, rfl⟩⟩, by decide⟩
theorem agg9 : aggT Try.prog 9 = some false := by kernel_rfl
theorem cells9 : Try.prog.cellsOf 9 = 1 := by kernel_rfl
theorem fits3 {v : AV} : fits Try.prog 3 v = (v.isAgg = false ∧ v.size = 1) := fits_leaf agg3 cells3
theorem fits9 {v : AV} : fits Try.prog 9 v = (v.isAgg = false ∧ v.size = 1) := fits_leaf agg9 cells9
end Go.Aff.L01

/- Layer 1, walked: lists compared; lists that are read, by their names. -/
namespace Go.Aff.L01
open Go.Proofs Go.Aff
set_option linter.unusedVariables false
set_option maxRecDepth 20000
set_option linter.unusedSimpArgs false
attribute [local go_sem] Try.underlying3 Try.underlying4 Try.underlying5 Try.underlying9 Try.underlying37 fits3 fits9
theorem ints_c {a b : List Int} {ta tb : Tk} {σ : AST} {K : AV → AST → Prop} (hK : K (.bool (decide (a = b))) σ) : TCalls Try.prog 20 [.slice ta (a.map (AV.int .i64)), .slice tb (b.map (AV.int .i64))] σ K := by
  refine tcalls_walk Try.f20 _ [.tmp 4] Try.func20 rfl rfl rfl mixed (Nat.le_of_ble_eq_true rfl) rfl fun hlen => ?_
  have ha : a.length ≤ 9223372036854775807 := by
    have := hlen (.slice ta (a.map (AV.int .i64))) (by simp)
    simp only [lenOk, List.length_map, maxL] at this; exact this
  simp -dsimp only [↓reduceIte, go_sem]
  refine arr_intro fun _ => ?_
  simp -dsimp only [↓reduceIte, go_sem]
  refine arr_intro fun _ => ?_
  simp only [List.length_map]
  simp -dsimp only [↓reduceIte, go_sem]
  refine boolW_split (fun h1 => ?_) (fun h1 => ?_)
  · have h1 : a.length ≠ b.length := by simp at h1; omega
    simp -dsimp only [↓reduceIte, go_sem]
    rw [show decide (a = b) = false by simp; intro h; rw [h] at h1; exact h1 rfl] at hK
    exact hK
  · have h1 : a.length = b.length := by simp at h1; omega
    simp -dsimp only [↓reduceIte, go_sem]
    refine awp_rounds (fun (i : Nat) τ s => s = σ ∧ i ≤ a.length ∧ τ 0 = .slice ta (a.map (AV.int .i64)) ∧ τ 1 = .slice tb (b.map (AV.int .i64)) ∧ τ 5 = .int .i64 i ∧ a.take i = b.take i) (fun i => a.length - i) 0 ?_ ?_
    · refine ⟨rfl, by omega, ?_, ?_, ?_, by simp⟩ <;> simp only [go_sem] <;> rfl
    · rintro i τ s ⟨rfl, hi, t0, t1, t5, ht⟩
      simp -dsimp only [↓reduceIte, go_sem, t0, t1, t5]
      refine arr_intro fun _ => ?_
      simp only [List.length_map]
      simp -dsimp only [↓reduceIte, go_sem, t0, t1, t5]
      refine boolW_split (fun h2 => ?_) (fun h2 => ?_)
      · have h2 : i < a.length := by simp at h2; omega
        obtain ⟨x, hx⟩ := get_lt h2
        obtain ⟨y, hy⟩ := get_lt (l := b) (i := i) (by omega)
        simp -dsimp only [↓reduceIte, go_sem, t0, t1, t5]
        refine awp_drawS [0, 1, 2, 3, 4, 5, 6, 7, 8] (by kernel_rfl) ?_
        simp -dsimp only [↓reduceIte, go_sem, t0, t1, t5]
        refine nth_get hx ?_
        simp -dsimp only [↓reduceIte, go_sem, t0, t1, t5]
        refine nth_get hy ?_
        simp -dsimp only [↓reduceIte, go_sem, t0, t1, t5]
        refine boolW_split (fun h3 => ?_) (fun h3 => ?_)
        · have h3 : x ≠ y := by simpa using h3
          simp -dsimp only [↓reduceIte, go_sem, t0, t1, t5]
          rw [show decide (a = b) = false by simp; intro h; rw [h, hy] at hx; exact h3 (Option.some.inj hx).symm] at hK
          exact hK
        · have h3 : x = y := by simpa using h3
          simp -dsimp only [↓reduceIte, go_sem, t0, t1, t5]
          rw [wrap_i64 (by omega) (by omega)]
          refine later_intro ⟨i + 1, by omega, ?_⟩
          refine ⟨rfl, by omega, ?_, ?_, ?_, ?_⟩ <;> (try simp only [go_sem, t0, t1, t5]) <;> try rfl
          rw [List.take_add_one, List.take_add_one, ht, hx, hy, h3]
      · have h2 : i = a.length := by simp at h2; omega
        simp -dsimp only [↓reduceIte, go_sem, t0, t1, t5]
        rw [h2, List.take_length, h1, List.take_length] at ht
        rw [show decide (a = b) = true by simpa using ht] at hK
        exact hK

end Go.Aff.L01

/- Layer 11: blobs. -/
namespace Go.Aff.L10
open Go.Proofs Go.Aff Go.Aff.L01 Classical
set_option linter.unusedVariables false
set_option maxRecDepth 20000
def dig0 : Dig := ⟨List.replicate 32 0, by simp⟩
structure Blob where
  owner : Int
  num : Int
  cipher : List UInt8
  tag : Dig
def blob0 : Blob := ⟨0, 0, [], dig0⟩
def blobPs (x : Blob) : List AV := [.int .i64 x.owner, .int .i64 x.num, .str x.cipher, .dig x.tag]
abbrev blobV (x : Blob) : AV := .agg (blobPs x)
theorem blobPs_0 {x : Blob} : (blobPs x)[0]? = some (.int .i64 x.owner) := nr rfl
theorem blobAt_0 {x : Blob} {v : AV} : partIs Try.prog 26 (blobPs x) 0 v = fits Try.prog 3 v := by rw [partIs_of (o := 0) (T := 3) (by kernel_rfl)]; simp [blobPs, AV.sizes, AV.size]
theorem blobSet_0 {x : Blob} {y : Int} : (blobPs x).set 0 (.int .i64 y) = blobPs { x with owner := y } := nr rfl
theorem blobPs_1 {x : Blob} : (blobPs x)[1]? = some (.int .i64 x.num) := nr rfl
theorem blobAt_1 {x : Blob} {v : AV} : partIs Try.prog 26 (blobPs x) 1 v = fits Try.prog 3 v := by rw [partIs_of (o := 1) (T := 3) (by kernel_rfl)]; simp [blobPs, AV.sizes, AV.size]
theorem blobSet_1 {x : Blob} {y : Int} : (blobPs x).set 1 (.int .i64 y) = blobPs { x with num := y } := nr rfl
theorem blobPs_2 {x : Blob} : (blobPs x)[2]? = some (.str x.cipher) := nr rfl
theorem blobAt_2 {x : Blob} {v : AV} : partIs Try.prog 26 (blobPs x) 2 v = fits Try.prog 9 v := by rw [partIs_of (o := 2) (T := 9) (by kernel_rfl)]; simp [blobPs, AV.sizes, AV.size]
theorem blobSet_2 {x : Blob} {y : List UInt8} : (blobPs x).set 2 (.str y) = blobPs { x with cipher := y } := nr rfl
theorem blobPs_3 {x : Blob} : (blobPs x)[3]? = some (.dig x.tag) := nr rfl
theorem blobAt_3 {x : Blob} {v : AV} : partIs Try.prog 26 (blobPs x) 3 v = fits Try.prog 24 v := by rw [partIs_of (o := 3) (T := 24) (by kernel_rfl)]; simp [blobPs, AV.sizes, AV.size]
theorem blobSet_3 {x : Blob} {y : Dig} : (blobPs x).set 3 (.dig y) = blobPs { x with tag := y } := nr rfl
theorem sizes_blob {x : Blob} : AV.sizes (blobPs x) = 35 := by simp [blobPs, AV.sizes, AV.size]
theorem shapes_blob {x : Blob} : AV.shapes (blobPs x) = [.leaf, .leaf, .leaf, .dig] := by simp [blobPs, AV.shapes, AV.shape]
theorem fits_blob {v : AV} : fits Try.prog 26 v = (v.isAgg = true ∧ v.size = 35) := fits_agg (by kernel_rfl) (by kernel_rfl)
theorem zero_blob : zeroA Try.prog 12 26 = .agg (blobPs blob0) := by kernel_rfl
theorem zt_blob : ZeroOf Try.prog 26 (.agg (blobPs blob0)) = True := eq_true ⟨_, _, rfl, rfl, rfl, rfl, rfl⟩
theorem built_blob : Built Try.prog 26 = True := eq_true (by unfold Built; rw [Try.underlying26]; decide +kernel)
theorem strip_blob {x : Blob} : AV.strips (blobPs x) = blobPs x := by simp [blobPs, AV.strips, AV.strip]
theorem noRef_blob {x : Blob} : AV.noRefs (blobPs x) = true := by simp [blobPs, AV.noRefs, AV.noRef]
/-ATTR blobPs_0 blobAt_0 blobSet_0 blobPs_1 blobAt_1 blobSet_1 blobPs_2 blobAt_2 blobSet_2 blobPs_3 blobAt_3 blobSet_3 sizes_blob shapes_blob fits_blob zero_blob zt_blob built_blob Try.underlying26 -/
end Go.Aff.L10

/- Layer 11: structs compared. -/
namespace Go.Aff.L10
open Go.Proofs Go.Aff Go.Aff.L01 Classical
set_option linter.unusedVariables false
set_option linter.unusedSimpArgs false
set_option maxRecDepth 20000
theorem dig_ext {a b : Dig} : a.l = b.l ↔ a = b := by
  cases a; cases b; simp
theorem eq_int3 {n : Nat} {a b : Int} : eqA Try.prog (n + 1) 3 (.int .i64 a) (.int .i64 b) = some (a == b) := by
  simp [eqA, Try.underlying3]
theorem eq_str9 {n : Nat} {a b : List UInt8} : eqA Try.prog (n + 1) 9 (.str a) (.str b) = some (a == b) := by
  simp [eqA, Try.underlying9]
theorem eq_dig24 {n : Nat} {a b : Dig} : eqA Try.prog (n + 4) 24 (.dig a) (.dig b) = some (a.l == b.l) := by
  have h : digT Try.prog 24 = true := by kernel_rfl
  obtain ⟨_, e, h2, h3, h4⟩ := digT_iff h
  simp [eqA, h2, h3, h4]
theorem eqAs_cons {n i : Nat} {t : TypeId} {f : Field} {fs : List Field} {x y : AV} {xs ys ax ay : List AV} (h : (f.name ≠ "_" ∧ f.offset = AV.sizes (ax.take i) ∧ f.offset = AV.sizes (ay.take i) ∧ aggT Try.prog f.type = some x.isAgg ∧ Try.prog.cellsOf f.type = x.size ∧ aggT Try.prog f.type = some y.isAgg ∧ Try.prog.cellsOf f.type = y.size)) {b : Bool} (hb : eqA Try.prog n f.type x y = some b) :
    eqAs Try.prog (n + 1) t i (f :: fs) (x :: xs) (y :: ys) ax ay = if b = true then eqAs Try.prog n t (i + 1) fs xs ys ax ay else some false := by
  simp only [eqAs]
  rw [if_pos h, hb]
  cases b <;> rfl
theorem eq_blob {a b : Blob} : eqA Try.prog 40 26 (.agg (blobPs a)) (.agg (blobPs b)) = some (decide (a = b)) := by
  have hs : Try.prog.stoodInHeld 26 = false := by kernel_rfl
  simp only [eqA, Try.underlying26, hs, if_true]
  unfold blobPs
  rw [eqAs_cons ⟨by decide, by simp [AV.sizes, AV.size], by simp [AV.sizes, AV.size], by kernel_rfl, by simp [AV.size]; kernel_rfl, by kernel_rfl, by simp [AV.size]; kernel_rfl⟩ eq_int3]
  refine (Classical.em (a.owner = b.owner)).elim (fun h0 => ?_) (fun h0 => by rw [if_neg (by simpa [dig_ext] using h0), decide_eq_false (fun e => h0 (congrArg Blob.owner e))])
  rw [if_pos (by simpa [dig_ext] using h0)]
  rw [eqAs_cons ⟨by decide, by simp [AV.sizes, AV.size], by simp [AV.sizes, AV.size], by kernel_rfl, by simp [AV.size]; kernel_rfl, by kernel_rfl, by simp [AV.size]; kernel_rfl⟩ eq_int3]
  refine (Classical.em (a.num = b.num)).elim (fun h1 => ?_) (fun h1 => by rw [if_neg (by simpa [dig_ext] using h1), decide_eq_false (fun e => h1 (congrArg Blob.num e))])
  rw [if_pos (by simpa [dig_ext] using h1)]
  rw [eqAs_cons ⟨by decide, by simp [AV.sizes, AV.size], by simp [AV.sizes, AV.size], by kernel_rfl, by simp [AV.size]; kernel_rfl, by kernel_rfl, by simp [AV.size]; kernel_rfl⟩ eq_str9]
  refine (Classical.em (a.cipher = b.cipher)).elim (fun h2 => ?_) (fun h2 => by rw [if_neg (by simpa [dig_ext] using h2), decide_eq_false (fun e => h2 (congrArg Blob.cipher e))])
  rw [if_pos (by simpa [dig_ext] using h2)]
  rw [eqAs_cons ⟨by decide, by simp [AV.sizes, AV.size], by simp [AV.sizes, AV.size], by kernel_rfl, by simp [AV.size]; kernel_rfl, by kernel_rfl, by simp [AV.size]; kernel_rfl⟩ eq_dig24]
  refine (Classical.em (a.tag = b.tag)).elim (fun h3 => ?_) (fun h3 => by rw [if_neg (by simpa [dig_ext] using h3), decide_eq_false (fun e => h3 (congrArg Blob.tag e))])
  rw [if_pos (by simpa [dig_ext] using h3)]
  rw [decide_eq_true (by cases a; cases b; simp_all)]; simp only [eqAs]
theorem bin_blob_eql {a b : Blob} {KV : AV → Prop} : binW Try.prog .eql 26 (.agg (blobPs a)) (.agg (blobPs b)) KV = KV (.bool (decide (a = b))) := by
  have h : Try.prog.eqGuardType Try.prog.depth 26 = false := by kernel_rfl
  simp [binW, eqW, eq_blob, h]
theorem bin_blob_neq {a b : Blob} {KV : AV → Prop} : binW Try.prog .neq 26 (.agg (blobPs a)) (.agg (blobPs b)) KV = KV (.bool !(decide (a = b))) := by
  have h : Try.prog.eqGuardType Try.prog.depth 26 = false := by kernel_rfl
  simp [binW, eqW, eq_blob, h]
theorem fits4 {v : AV} : fits Try.prog 4 v = (v.isAgg = false ∧ v.size = 1) := fits_leaf (by kernel_rfl) (by kernel_rfl)
theorem fits5 {v : AV} : fits Try.prog 5 v = (v.isAgg = false ∧ v.size = 1) := fits_leaf (by kernel_rfl) (by kernel_rfl)
theorem fits23 {v : AV} : fits Try.prog 24 v = (v.isAgg = true ∧ v.size = 32) := fits_agg (by kernel_rfl) (by kernel_rfl)
theorem fits26 {v : AV} : fits Try.prog 43 v = (v.isAgg = false ∧ v.size = 1) := fits_leaf (by kernel_rfl) (by kernel_rfl)
theorem fits31 {v : AV} : fits Try.prog 37 v = (v.isAgg = false ∧ v.size = 1) := fits_leaf (by kernel_rfl) (by kernel_rfl)
theorem fits34 {v : AV} : fits Try.prog 32 v = (v.isAgg = false ∧ v.size = 1) := fits_leaf (by kernel_rfl) (by kernel_rfl)
theorem zero3 : zeroA Try.prog 12 3 = .int .i64 0 := by kernel_rfl
theorem zt3 : ZeroOf Try.prog 3 (.int .i64 0) = True := eq_true ⟨_, _, rfl, rfl, rfl, rfl, rfl⟩
end Go.Aff.L10

/- Layer 11: keys, stores, calls. -/
namespace Go.Aff.L10
open Go.Proofs Go.Aff Go.Aff.L01 Classical
set_option linter.unusedVariables false
set_option linter.unusedSimpArgs false
set_option maxRecDepth 20000
structure BKey where
  owner : Int
  num : Int
def bkey0 : BKey := ⟨0, 0⟩
def bkeyPs (x : BKey) : List AV := [.int .i64 x.owner, .int .i64 x.num]
abbrev bkeyV (x : BKey) : AV := .agg (bkeyPs x)
theorem bkeyPs_0 {x : BKey} : (bkeyPs x)[0]? = some (.int .i64 x.owner) := nr rfl
theorem bkeyAt_0 {x : BKey} {v : AV} : partIs Try.prog 56 (bkeyPs x) 0 v = fits Try.prog 3 v := by rw [partIs_of (o := 0) (T := 3) (by kernel_rfl)]; simp [bkeyPs, AV.sizes, AV.size]
theorem bkeySet_0 {x : BKey} {y : Int} : (bkeyPs x).set 0 (.int .i64 y) = bkeyPs { x with owner := y } := nr rfl
theorem bkeyPs_1 {x : BKey} : (bkeyPs x)[1]? = some (.int .i64 x.num) := nr rfl
theorem bkeyAt_1 {x : BKey} {v : AV} : partIs Try.prog 56 (bkeyPs x) 1 v = fits Try.prog 3 v := by rw [partIs_of (o := 1) (T := 3) (by kernel_rfl)]; simp [bkeyPs, AV.sizes, AV.size]
theorem bkeySet_1 {x : BKey} {y : Int} : (bkeyPs x).set 1 (.int .i64 y) = bkeyPs { x with num := y } := nr rfl
theorem sizes_bkey {x : BKey} : AV.sizes (bkeyPs x) = 2 := by simp [bkeyPs, AV.sizes, AV.size]
theorem shapes_bkey {x : BKey} : AV.shapes (bkeyPs x) = [.leaf, .leaf] := by simp [bkeyPs, AV.shapes, AV.shape]
theorem fits_bkey {v : AV} : fits Try.prog 56 v = (v.isAgg = true ∧ v.size = 2) := fits_agg (by kernel_rfl) (by kernel_rfl)
theorem zero_bkey : zeroA Try.prog 12 56 = .agg (bkeyPs bkey0) := by kernel_rfl
theorem zt_bkey : ZeroOf Try.prog 56 (.agg (bkeyPs bkey0)) = True := eq_true ⟨_, _, rfl, rfl, rfl, rfl, rfl⟩
theorem built_bkey : Built Try.prog 56 = True := eq_true (by unfold Built; rw [Try.underlying56]; decide +kernel)
theorem strip_bkey {x : BKey} : AV.strips (bkeyPs x) = bkeyPs x := by simp [bkeyPs, AV.strips, AV.strip]
theorem noRef_bkey {x : BKey} : AV.noRefs (bkeyPs x) = true := by simp [bkeyPs, AV.noRefs, AV.noRef]
structure RSt where
  l : List Blob
def rst0 : RSt := ⟨[]⟩
def rstPs (t0 : Tk) (x : RSt) : List AV := [.slice t0 (x.l.map blobV)]
abbrev rstV (t0 : Tk) (x : RSt) : AV := .agg (rstPs t0 x)
theorem rstPs_0 {t0 : Tk} {x : RSt} : (rstPs t0 x)[0]? = some (.slice t0 (x.l.map blobV)) := nr rfl
theorem rstAt_0 {t0 : Tk} {x : RSt} {v : AV} : partIs Try.prog 45 (rstPs t0 x) 0 v = fits Try.prog 43 v := by rw [partIs_of (o := 0) (T := 43) (by kernel_rfl)]; simp [rstPs, AV.sizes, AV.size]
theorem rstSet_0 {t0 : Tk} {u0 : Tk} {x : RSt} {y : List Blob} : (rstPs t0 x).set 0 (.slice u0 (y.map blobV)) = rstPs u0 { x with l := y } := nr rfl
theorem sizes_rst {t0 : Tk} {x : RSt} : AV.sizes (rstPs t0 x) = 1 := by simp [rstPs, AV.sizes, AV.size]
theorem shapes_rst {t0 : Tk} {x : RSt} : AV.shapes (rstPs t0 x) = [.leaf] := by simp [rstPs, AV.shapes, AV.shape]
theorem fits_rst {v : AV} : fits Try.prog 45 v = (v.isAgg = true ∧ v.size = 1) := fits_agg (by kernel_rfl) (by kernel_rfl)
theorem zero_rst : zeroA Try.prog 12 45 = .agg (rstPs .full rst0) := by kernel_rfl
theorem zt_rst : ZeroOf Try.prog 45 (.agg (rstPs .full rst0)) = True := eq_true ⟨_, _, rfl, rfl, rfl, rfl, rfl⟩
theorem built_rst : Built Try.prog 45 = True := eq_true (by unfold Built; rw [Try.underlying45]; decide +kernel)
structure Act11 where
  kind : Int
  owner : Int
  number : Int
  b : Blob
  l : List Int
def act0 : Act11 := ⟨0, 0, 0, blob0, []⟩
def actPs (t0 : Tk) (x : Act11) : List AV := [.int .i64 x.kind, .int .i64 x.owner, .int .i64 x.number, .agg (blobPs x.b), .slice t0 (x.l.map (AV.int .i64))]
abbrev actV (t0 : Tk) (x : Act11) : AV := .agg (actPs t0 x)
theorem actPs_0 {t0 : Tk} {x : Act11} : (actPs t0 x)[0]? = some (.int .i64 x.kind) := nr rfl
theorem actAt_0 {t0 : Tk} {x : Act11} {v : AV} : partIs Try.prog 42 (actPs t0 x) 0 v = fits Try.prog 3 v := by rw [partIs_of (o := 0) (T := 3) (by kernel_rfl)]; simp [actPs, AV.sizes, AV.size]
theorem actSet_0 {t0 : Tk} {x : Act11} {y : Int} : (actPs t0 x).set 0 (.int .i64 y) = actPs t0 { x with kind := y } := nr rfl
theorem actPs_1 {t0 : Tk} {x : Act11} : (actPs t0 x)[1]? = some (.int .i64 x.owner) := nr rfl
theorem actAt_1 {t0 : Tk} {x : Act11} {v : AV} : partIs Try.prog 42 (actPs t0 x) 1 v = fits Try.prog 3 v := by rw [partIs_of (o := 1) (T := 3) (by kernel_rfl)]; simp [actPs, AV.sizes, AV.size]
theorem actSet_1 {t0 : Tk} {x : Act11} {y : Int} : (actPs t0 x).set 1 (.int .i64 y) = actPs t0 { x with owner := y } := nr rfl
theorem actPs_2 {t0 : Tk} {x : Act11} : (actPs t0 x)[2]? = some (.int .i64 x.number) := nr rfl
theorem actAt_2 {t0 : Tk} {x : Act11} {v : AV} : partIs Try.prog 42 (actPs t0 x) 2 v = fits Try.prog 3 v := by rw [partIs_of (o := 2) (T := 3) (by kernel_rfl)]; simp [actPs, AV.sizes, AV.size]
theorem actSet_2 {t0 : Tk} {x : Act11} {y : Int} : (actPs t0 x).set 2 (.int .i64 y) = actPs t0 { x with number := y } := nr rfl
theorem actPs_3 {t0 : Tk} {x : Act11} : (actPs t0 x)[3]? = some (.agg (blobPs x.b)) := nr rfl
theorem actAt_3 {t0 : Tk} {x : Act11} {v : AV} : partIs Try.prog 42 (actPs t0 x) 3 v = fits Try.prog 26 v := by rw [partIs_of (o := 3) (T := 26) (by kernel_rfl)]; simp [actPs, AV.sizes, AV.size]
theorem actSet_3 {t0 : Tk} {x : Act11} {y : Blob} : (actPs t0 x).set 3 (.agg (blobPs y)) = actPs t0 { x with b := y } := nr rfl
theorem actPs_4 {t0 : Tk} {x : Act11} : (actPs t0 x)[4]? = some (.slice t0 (x.l.map (AV.int .i64))) := nr rfl
theorem actAt_4 {t0 : Tk} {x : Act11} {v : AV} : partIs Try.prog 42 (actPs t0 x) 4 v = fits Try.prog 37 v := by rw [partIs_of (o := 38) (T := 37) (by kernel_rfl)]; simp [actPs, AV.sizes, AV.size, sizes_blob]
theorem actSet_4 {t0 : Tk} {u0 : Tk} {x : Act11} {y : List Int} : (actPs t0 x).set 4 (.slice u0 (y.map (AV.int .i64))) = actPs u0 { x with l := y } := nr rfl
theorem sizes_act {t0 : Tk} {x : Act11} : AV.sizes (actPs t0 x) = 39 := by simp [actPs, AV.sizes, AV.size, sizes_blob]
theorem shapes_act {t0 : Tk} {x : Act11} : AV.shapes (actPs t0 x) = [.leaf, .leaf, .leaf, .node [.leaf, .leaf, .leaf, .dig], .leaf] := by simp [actPs, AV.shapes, AV.shape, shapes_blob]
theorem fits_act {v : AV} : fits Try.prog 42 v = (v.isAgg = true ∧ v.size = 39) := fits_agg (by kernel_rfl) (by kernel_rfl)
theorem zero_act : zeroA Try.prog 12 42 = .agg (actPs .full act0) := by kernel_rfl
theorem zt_act : ZeroOf Try.prog 42 (.agg (actPs .full act0)) = True := eq_true ⟨_, _, rfl, rfl, rfl, rfl, rfl⟩
theorem built_act : Built Try.prog 42 = True := eq_true (by unfold Built; rw [Try.underlying42]; decide +kernel)
theorem fits58 {o : Option Nat} : fits Try.prog 58 (.mp o) = True := by rw [fits_leaf (P := Try.prog) (t := 58) (by kernel_rfl) (by kernel_rfl)]; simp [AV.isAgg, AV.size]
theorem stAt {x y : Option Nat} : partIs Try.prog 60 [.mp x] 0 (.mp y) = True := by rw [partIs_of (o := 0) (T := 58) (by kernel_rfl)]; simp [AV.sizes, AV.size, fits58]
theorem zero60 : zeroA Try.prog 12 60 = .agg [.mp none] := by kernel_rfl
theorem zt60 : ZeroOf Try.prog 60 (.agg [.mp none]) = True := eq_true ⟨_, _, rfl, rfl, rfl, rfl, rfl⟩
theorem built60 : Built Try.prog 60 = True := eq_true (by unfold Built; rw [Try.underlying60]; decide +kernel)
theorem fits60 {v : AV} : fits Try.prog 60 v = (v.isAgg = true ∧ v.size = 1) := fits_agg (by kernel_rfl) (by kernel_rfl)
theorem shape_mp {o : Option Nat} : (AV.mp o).shape = .leaf := by simp [AV.shape]
theorem bkey_ok {a : BKey} : keyOk Try.prog 40 56 (.agg (bkeyPs a)) = true := by
  simp only [keyOk, Try.underlying56, bkeyPs, keyOks, Try.underlying3]
  kernel_rfl
theorem eq_bkey {a b : BKey} : eqA Try.prog 40 56 (.agg (bkeyPs a)) (.agg (bkeyPs b)) = some (decide (a = b)) := by
  have hs : Try.prog.stoodInHeld 56 = false := by kernel_rfl
  simp only [eqA, Try.underlying56, hs, if_true]
  unfold bkeyPs
  rw [eqAs_cons ⟨by decide, by simp [AV.sizes, AV.size], by simp [AV.sizes, AV.size], by kernel_rfl, by simp [AV.size]; kernel_rfl, by kernel_rfl, by simp [AV.size]; kernel_rfl⟩ eq_int3]
  refine (Classical.em (a.owner = b.owner)).elim (fun h0 => ?_) (fun h0 => by rw [if_neg (by simpa [dig_ext] using h0), decide_eq_false (fun e => h0 (congrArg BKey.owner e))])
  rw [if_pos (by simpa [dig_ext] using h0)]
  rw [eqAs_cons ⟨by decide, by simp [AV.sizes, AV.size], by simp [AV.sizes, AV.size], by kernel_rfl, by simp [AV.size]; kernel_rfl, by kernel_rfl, by simp [AV.size]; kernel_rfl⟩ eq_int3]
  refine (Classical.em (a.num = b.num)).elim (fun h1 => ?_) (fun h1 => by rw [if_neg (by simpa [dig_ext] using h1), decide_eq_false (fun e => h1 (congrArg BKey.num e))])
  rw [if_pos (by simpa [dig_ext] using h1)]
  rw [decide_eq_true (by cases a; cases b; simp_all)]; simp only [eqAs]
theorem bin_bkey_eql {a b : BKey} {KV : AV → Prop} : binW Try.prog .eql 56 (.agg (bkeyPs a)) (.agg (bkeyPs b)) KV = KV (.bool (decide (a = b))) := by
  have h : Try.prog.eqGuardType Try.prog.depth 56 = false := by kernel_rfl
  simp [binW, eqW, eq_bkey, h]
theorem bin_bkey_neq {a b : BKey} {KV : AV → Prop} : binW Try.prog .neq 56 (.agg (bkeyPs a)) (.agg (bkeyPs b)) KV = KV (.bool !(decide (a = b))) := by
  have h : Try.prog.eqGuardType Try.prog.depth 56 = false := by kernel_rfl
  simp [binW, eqW, eq_bkey, h]
end Go.Aff.L10

