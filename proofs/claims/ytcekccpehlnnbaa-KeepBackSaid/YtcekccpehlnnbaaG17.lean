import Derived.Test.YtcekccpehlnnbaaG16
import Derived.Test.YtcekccpehlnnbaaG12
import Derived.Test.YtcekccpehlnnbaaG14
import Derived.Test.YtcekccpehlnnbaaG15

/- Drawn regions, again: what is read ahead of everything that is left behind need not stay. Stores into parts. -/
namespace Go.Aff
set_option linter.unusedVariables false
set_option linter.unusedSimpArgs false

variable {P : Program} {σ σ' : AST} {ops : Array Oper} {τ : Env} {KE : Env → AST → Prop}

/-- What an operation is: 0: it reads, and that must stay; 1: it may leave something behind; 2: it reads, and stands ahead of all that is left behind later. -/
def seqF (P : Program) (ops : Array Oper) : List (Nat × Nat) → List Nat → Env → AST → (Env → AST → Prop) → Prop
  | [], ks, τ, σ, K => K τ σ
  | (i, 1) :: r, ks, τ, σ, K => match gop ops i with
    | none => False
    | some o => stepW P ops o τ σ fun v σ' => keeps ks σ σ' ∧ seqF P ops r ks (τ.putO o.dst v) σ' K
  | (i, 0) :: r, ks, τ, σ, K => match gop ops i with
    | none => False
    | some o => stepW P ops o τ σ fun v σ' => σ' = σ ∧ seqF P ops r (reads (ev τ) o.op ++ ks) (τ.putO o.dst v) σ' K
  | (i, _) :: r, ks, τ, σ, K => match gop ops i with
    | none => False
    | some o => stepW P ops o τ σ fun v σ' => σ' = σ ∧ seqF P ops r ks (τ.putO o.dst v) σ' K

def flagsF (P : Program) (ops : Array Oper) : List (Nat × Nat) → Bool
  | [] => true
  | (i, k) :: r => (match ops[i]? with
    | none => false
    | some o => effO P o == (k == 1)) && (k == 0 || k == 1 || r.all fun y => y.2 != 1 || ahead (anc ops) y.1 i) && flagsF P ops r

def pastF (P : Program) (ops : Array Oper) (ks : List Nat) (past : List (Nat × Env × AV)) (r : List (Nat × Nat)) (σ : AST) : Prop :=
  ∀ x ∈ past, (∀ o, ops[x.1]? = some o → (∀ t, lenOk (x.2.1 t)) ∧ effO P o = false ∧ (∀ k ∈ reads (ev x.2.1) o.op, k ∈ ks) ∧ stepW P ops o x.2.1 σ fun v' σ'' => v' = x.2.2 ∧ σ'' = σ) ∨ (∀ y ∈ r, y.2 = 1 → ahead (anc ops) y.1 x.1 = true)

theorem seqF_awpD : ∀ (l : List (Nat × Nat)) (ks : List Nat) (past : List (Nat × Env × AV)) (τ : Env) (σ : AST), flagsF P ops l = true → pastF P ops ks past l σ → (∀ t, lenOk (τ t)) → seqF P ops l ks τ σ KE → awpD P ops (l.map (·.1)) past τ σ KE
  | [], ks, past, τ, σ, hf, hp, hlen, h => h
  | (i, 1) :: r, ks, past, τ, σ, hf, hp, hlen, h => by
    simp only [seqF] at h
    split at h
    · exact h.elim
    · rename_i o hk
      have hk : ops[i]? = some o := hk
      simp only [flagsF, hk, Bool.and_eq_true, beq_iff_eq] at hf
      have he : effO P o = true := by simpa using hf.1.1
      simp only [List.map_cons, awpD, hk, he, if_true]
      refine stepW_mono (fun v σ' hh => ?_) h
      refine ⟨fun x hx hah o ho => ?_, fun hlv => seqF_awpD r ks past _ _ hf.2 ?_ hlv hh.2⟩
      · rcases hp x hx with h0 | h0
        · obtain ⟨h1, h2, h3, h4⟩ := h0 o ho
          exact step_same h1 h2 (fun k hk => hh.1 k (h3 k hk)) h4
        · rw [h0 (i, 1) (by simp) rfl] at hah; cases hah
      · intro x hx
        rcases hp x hx with h0 | h0
        · left
          intro o ho
          obtain ⟨h1, h2, h3, h4⟩ := h0 o ho
          exact ⟨h1, h2, h3, step_same h1 h2 (fun k hk => hh.1 k (h3 k hk)) h4⟩
        · right
          intro y hy; exact h0 y (List.mem_cons_of_mem _ hy)
  | (i, 0) :: r, ks, past, τ, σ, hf, hp, hlen, h => by
    simp only [seqF] at h
    split at h
    · exact h.elim
    · rename_i o hk
      have hk : ops[i]? = some o := hk
      simp only [flagsF, hk, Bool.and_eq_true, beq_iff_eq] at hf
      have he : effO P o = false := by simpa using hf.1.1
      simp only [List.map_cons, awpD, hk, he, Bool.false_eq_true, if_false]
      obtain ⟨v, hv, hkk⟩ := stepW_det hlen he h
      refine hkk _ fun hlv => seqF_awpD r _ _ _ _ hf.2 ?_ hlv hv.2
      intro x hx
      rcases List.mem_cons.1 hx with rfl | hx
      · left
        intro o' ho'
        dsimp only at ho' ⊢
        rw [hk] at ho'; cases ho'
        exact ⟨hlen, he, fun k hk => List.mem_append_left _ hk, hkk _ ⟨rfl, rfl⟩⟩
      · rcases hp x hx with h0 | h0
        · left
          intro o' ho'
          obtain ⟨h1, h2, h3, h4⟩ := h0 o' ho'
          exact ⟨h1, h2, fun k hk => List.mem_append_right _ (h3 k hk), h4⟩
        · right; intro y hy; exact h0 y (List.mem_cons_of_mem _ hy)
  | (i, n + 2) :: r, ks, past, τ, σ, hf, hp, hlen, h => by
    simp only [seqF] at h
    split at h
    · exact h.elim
    · rename_i o hk
      have hk : ops[i]? = some o := hk
      simp only [flagsF, hk, Bool.and_eq_true, beq_iff_eq] at hf
      have he : effO P o = false := by simpa using hf.1.1
      have hall := hf.1.2
      simp only [List.map_cons, awpD, hk, he, Bool.false_eq_true, if_false]
      obtain ⟨v, hv, hkk⟩ := stepW_det hlen he h
      refine hkk _ fun hlv => seqF_awpD r _ _ _ _ hf.2 ?_ hlv hv.2
      intro x hx
      rcases List.mem_cons.1 hx with rfl | hx
      · right
        intro y hy h1
        have hall : (r.all fun y => y.2 != 1 || ahead (anc ops) y.1 i) = true := by simpa using hall
        rw [List.all_eq_true] at hall
        have := hall y hy
        simpa [h1] using this
      · rcases hp x hx with h0 | h0
        · exact .inl h0
        · right; intro y hy; exact h0 y (List.mem_cons_of_mem _ hy)

theorem awp_drawF {id : Nat} {ops : Array Oper} {Q : Exit → Env → AST → Prop} (ord : List (Nat × Nat)) (ho : (ordOk P ops (ord.map (·.1)) && flagsF P ops ord) = true) (h : seqF P ops ord [] τ σ (Q .normal)) : awp P (.region id ops true) Q τ σ := by
  rw [Bool.and_eq_true] at ho
  exact awp_draw _ ho.1 fun hlen => seqF_awpD ord [] [] τ σ ho.2 (fun x hx => by simp at hx) hlen h

def seqF0 (P : Program) (ops : Array Oper) (o : Option Oper) (r : List (Nat × Nat)) (ks : List Nat) (τ : Env) (σ : AST) (K : Env → AST → Prop) : Prop := match o with
  | none => False
  | some o => stepW P ops o τ σ fun v σ' => σ' = σ ∧ seqF P ops r (reads (ev τ) o.op ++ ks) (τ.putO o.dst v) σ' K
def seqF1 (P : Program) (ops : Array Oper) (o : Option Oper) (r : List (Nat × Nat)) (ks : List Nat) (τ : Env) (σ : AST) (K : Env → AST → Prop) : Prop := match o with
  | none => False
  | some o => stepW P ops o τ σ fun v σ' => keeps ks σ σ' ∧ seqF P ops r ks (τ.putO o.dst v) σ' K
def seqF2 (P : Program) (ops : Array Oper) (o : Option Oper) (r : List (Nat × Nat)) (ks : List Nat) (τ : Env) (σ : AST) (K : Env → AST → Prop) : Prop := match o with
  | none => False
  | some o => stepW P ops o τ σ fun v σ' => σ' = σ ∧ seqF P ops r ks (τ.putO o.dst v) σ' K
variable {ks : List Nat}
theorem seqF_nil : seqF P ops [] ks τ σ KE = KE τ σ := nr rfl
theorem seqF_1 {i : Nat} {r : List (Nat × Nat)} : seqF P ops ((i, 1) :: r) ks τ σ KE = seqF1 P ops (gop ops i) r ks τ σ KE := by simp only [seqF, seqF1]
theorem seqF_0 {i : Nat} {r : List (Nat × Nat)} : seqF P ops ((i, 0) :: r) ks τ σ KE = seqF0 P ops (gop ops i) r ks τ σ KE := by simp only [seqF, seqF0]
theorem seqF_2 {i : Nat} {r : List (Nat × Nat)} : seqF P ops ((i, 2) :: r) ks τ σ KE = seqF2 P ops (gop ops i) r ks τ σ KE := by simp only [seqF, seqF2]
theorem seqF1_some {o : Oper} {r : List (Nat × Nat)} : seqF1 P ops (some o) r ks τ σ KE = stepW P ops o τ σ (@Lam ⟨fun v σ' => @Later ⟨keeps ks σ σ' ∧ seqF P ops r ks (τ.putO o.dst v) σ' KE⟩⟩) := nr rfl
theorem seqF0_some {o : Oper} {r : List (Nat × Nat)} : seqF0 P ops (some o) r ks τ σ KE = stepW P ops o τ σ (@Lam ⟨fun v σ' => σ' = σ ∧ @Later ⟨seqF P ops r (reads (ev τ) o.op ++ ks) (τ.putO o.dst v) σ' KE⟩⟩) := nr rfl
theorem seqF2_some {o : Oper} {r : List (Nat × Nat)} : seqF2 P ops (some o) r ks τ σ KE = stepW P ops o τ σ (@Lam ⟨fun v σ' => σ' = σ ∧ @Later ⟨seqF P ops r ks (τ.putO o.dst v) σ' KE⟩⟩) := nr rfl
attribute [go_sem ↓] seqF_nil seqF_0 seqF_1 seqF_2 seqF0_some seqF1_some seqF2_some
theorem reads_buildSlice {ρ : Operand → AV} {t : TypeId} {n : Nat} {ps : Array (Nat × Operand)} : reads ρ (.buildSlice t n ps) = [] := rfl
attribute [go_sem] reads_buildSlice

theorem res_ct {a b : Nat} {ty : TypeId} {KV : AV → Prop} : resW P [.cell a ty, .tmp b] τ σ KV = loadW P σ ty (τ a) (@LamA _ ⟨fun x => (x.known = true ∧ (τ b).known = true) ∧ @Later ⟨KV (.tuple [x, τ b])⟩⟩) := by
  simp [resW, resList, oneRes, Later, LamA]
theorem res_tc {a b : Nat} {ty : TypeId} {KV : AV → Prop} : resW P [.tmp a, .cell b ty] τ σ KV = loadW P σ ty (τ b) (@LamA _ ⟨fun x => ((τ a).known = true ∧ x.known = true) ∧ @Later ⟨KV (.tuple [τ a, x])⟩⟩) := by
  simp [resW, resList, oneRes, Later, LamA]
attribute [go_sem ↓] res_ct res_tc
theorem growS_app {tk : Tk} {n e : Nat} {l : List AObj} : growS (σ.app l) tk n e = (growS σ tk n e).app l := by cases tk <;> rfl
theorem growT_app {tk : Tk} {l : List AObj} : growT (σ.app l) tk = growT σ tk := by cases tk <;> rfl
/-! ### Stores into parts -/
def setAtO (ps : List AV) (i : Nat) (p : List Nat) (x : AV) : Option AV → AV
  | some v => .agg (ps.set i (v.setAt p x))
  | none => .agg ps
theorem setAt_agg {ps : List AV} {i : Nat} {p : List Nat} {x : AV} : (AV.agg ps).setAt (i :: p) x = setAtO ps i p x ps[i]? := by
  simp only [AV.setAt]; cases ps[i]? <;> rfl
theorem setAtO_some {ps : List AV} {i : Nat} {p : List Nat} {x v : AV} : setAtO ps i p x (some v) = .agg (ps.set i (v.setAt p x)) := rfl
def setOkO (p : List Nat) (x : AV) : Option AV → Prop
  | some v => setOk v p x
  | none => True
theorem setOk_agg {ps : List AV} {i : Nat} {p : List Nat} {x : AV} : setOk (.agg ps) (i :: p) x = setOkO p x ps[i]? := by
  simp only [setOk, eq_iff_iff]
  cases h : ps[i]? with
  | none => simp [setOkO]
  | some v => simp [setOkO]
theorem setOkO_some {p : List Nat} {x v : AV} : setOkO p x (some v) = setOk v p x := rfl
attribute [go_sem] setAt_agg setAtO_some setOk_agg setOkO_some
end Go.Aff

/- Layer 25, walked: numbers that rise, lists compared, parts. -/
namespace Go.Aff.L25
open Go.Proofs Go.Aff Go.Aff.L01 Classical
set_option linter.unusedVariables false
set_option linter.unusedSimpArgs false
theorem fits53 {v : AV} : fits Try.prog 53 v = (v.isAgg = true ∧ v.size = 2) := fits_agg (by kernel_rfl) (by kernel_rfl)
theorem p53_0 {ps : List AV} {x : AV} : partIs Try.prog 53 ps 0 x = (0 = AV.sizes (ps.take 0) ∧ fits Try.prog 3 x) := partIs_of (by kernel_rfl)
theorem p53_1 {ps : List AV} {x : AV} : partIs Try.prog 53 ps 1 x = (1 = AV.sizes (ps.take 1) ∧ fits Try.prog 9 x) := partIs_of (by kernel_rfl)
theorem E22 : ElemT Try.prog 22 53 2 24 := ⟨rfl, by kernel_rfl, by kernel_rfl, ⟨.agg [.int .i64 0, .str []], ⟨_, _, rfl, rfl, rfl, rfl, rfl⟩⟩, by decide⟩
theorem E23 : ElemT Try.prog 23 3 1 8 := ⟨rfl, by kernel_rfl, by kernel_rfl, ⟨.int .i64 0, ⟨_, _, rfl, rfl, rfl, rfl, rfl⟩⟩, by decide⟩
theorem E47 : ElemT Try.prog 47 9 1 16 := ⟨rfl, by kernel_rfl, by kernel_rfl, ⟨.str [], ⟨_, _, rfl, rfl, rfl, rfl, rfl⟩⟩, by decide⟩
theorem zero53 : zeroA Try.prog 12 53 = .agg [.int .i64 0, .str []] := by kernel_rfl
theorem zeroOf53 : ZeroOf Try.prog 53 (.agg [.int .i64 0, .str []]) := ⟨_, _, rfl, rfl, rfl, rfl, rfl⟩
attribute [local go_sem] Try.underlying3 Try.underlying4 Try.underlying5 Try.underlying9 Try.underlying22 Try.underlying23 Try.underlying26 Try.underlying44 Try.underlying47 Try.underlying53 fits3 fits9 fits53 p53_0 p53_1

def pieceV (x : Int × List UInt8) : AV := .agg [.int .i64 x.1, .str x.2]
theorem pieceV_strip (x : Int × List UInt8) : (pieceV x).strip = pieceV x := by simp [pieceV, AV.strip, AV.strips]
theorem pieceV_noRef (x : Int × List UInt8) : (pieceV x).noRef = true := rfl
theorem size_piece : ∀ {l : List (Int × List UInt8)}, ∀ v ∈ l.map pieceV, v.size = 2 := by
  intro l v hv; obtain ⟨x, _, rfl⟩ := List.mem_map.1 hv; simp [pieceV, AV.size, AV.sizes]
theorem size_ints : ∀ {l : List Int}, ∀ v ∈ l.map (AV.int .i64), v.size = 1 := by
  intro l v hv; obtain ⟨x, _, rfl⟩ := List.mem_map.1 hv; simp [AV.size]
theorem size_strs : ∀ {l : List (List UInt8)}, ∀ v ∈ l.map AV.str, v.size = 1 := by
  intro l v hv; obtain ⟨x, _, rfl⟩ := List.mem_map.1 hv; simp [AV.size]

theorem rises_no {l : List Int} {i : Nat} {n : Int} (hn : l[i]? = some n) (h : ¬ (0 ≤ n ∧ n ≤ 1099511627776 ∧ ∀ m, 0 < i → l[i - 1]? = some m → m < n)) : decide (Rises l) = false := by
  simp only [decide_eq_false_iff_not]
  intro hr; exact h (hr i n hn)

theorem rises_c {l : List Int} {tk : Tk} {σ : AST} {K : AV → AST → Prop} (hK : K (.bool (decide (Rises l))) σ) : TCalls Try.prog 39 [.slice tk (l.map (AV.int .i64))] σ K := by
  refine tcalls_walk Try.f39 _ [.tmp 2] Try.func39 rfl rfl rfl mixed (Nat.le_of_ble_eq_true rfl) rfl fun hlen => ?_
  have hs : l.length ≤ 9223372036854775807 := by
    have := hlen (.slice tk (l.map (AV.int .i64))) (by simp)
    simp only [lenOk, List.length_map, maxL] at this; exact this
  simp -dsimp only [↓reduceIte, go_sem]
  refine arr_intro fun _ => ?_
  simp only [List.length_map]
  simp -dsimp only [↓reduceIte, go_sem]
  refine awp_rounds (fun (i : Nat) τ s => i ≤ l.length ∧ s = σ ∧ τ 0 = .slice tk (l.map (AV.int .i64)) ∧ τ 5 = .slice tk (l.map (AV.int .i64)) ∧ τ 6 = .int .i64 l.length ∧ τ 7 = .int .i64 i ∧ RisesTo l i) (fun i => l.length - i) 0 ?_ ?_
  · refine ⟨by omega, rfl, ?_, ?_, ?_, ?_, risesTo_zero⟩ <;> simp only [go_sem] <;> rfl
  · rintro i τ s ⟨hi, rfl, t0, t5, t6, t7, hr⟩
    simp -dsimp only [↓reduceIte, go_sem, t0, t5, t6, t7]
    refine boolW_split (fun hb => ?_) (fun hb => ?_)
    · have hb : i < l.length := by simp at hb; omega
      obtain ⟨n, hn⟩ := get_lt hb
      simp -dsimp only [↓reduceIte, go_sem, t0, t5, t6, t7]
      refine nth_get hn ?_
      simp -dsimp only [↓reduceIte, go_sem, t0, t5, t6, t7]
      have bad : ¬ (0 ≤ n ∧ n ≤ 1099511627776 ∧ ∀ m, 0 < i → l[i - 1]? = some m → m < n) → K (.bool false) s := fun h => by
        rw [rises_no hn h] at hK; exact hK
      have step : (0 ≤ n ∧ n ≤ 1099511627776 ∧ ∀ m, 0 < i → l[i - 1]? = some m → m < n) → RisesTo l (i + 1) := fun h => risesTo_step hr hn h.1 h.2.1 h.2.2
      refine guardV_split (fun h1 => ?_) (fun h1 => ?_) <;> (try rw [h1])
      · have h1 : 0 ≤ n := by simpa using h1
        simp -dsimp only [↓reduceIte, go_sem, t0, t5, t6, t7]
        refine guardV_split (fun h2 => ?_) (fun h2 => ?_) <;> (try rw [h2])
        · have h2 : n ≤ 1099511627776 := by simpa using h2
          simp -dsimp only [↓reduceIte, go_sem, t0, t5, t6, t7]
          refine guardV_split (fun h3 => ?_) (fun h3 => ?_) <;> (try rw [h3])
          · have h3 : 0 < i := by simp at h3; omega
            obtain ⟨m, hm⟩ := get_lt (l := l) (i := i - 1) (by omega)
            simp -dsimp only [↓reduceIte, go_sem, t0, t5, t6, t7]
            rw [wrap_i64 (by omega) (by omega), show (i : Int) - 1 = ((i - 1 : Nat) : Int) by omega]
            refine nth_get hm ?_
            simp -dsimp only [↓reduceIte, go_sem, t0, t5, t6, t7]
            refine boolW_split (fun h4 => ?_) (fun h4 => ?_)
            · have h4 : n ≤ m := by simpa using h4
              simp -dsimp only [↓reduceIte, go_sem, t0, t5, t6, t7]
              exact bad fun h => by have := h.2.2 m h3 hm; omega
            · have h4 : m < n := by simpa using h4
              simp -dsimp only [↓reduceIte, go_sem, t0, t5, t6, t7]
              rw [wrap_i64 (by omega) (by omega)]
              refine later_intro ⟨i + 1, by omega, by omega, rfl, ?_, ?_, ?_, ?_, step ⟨h1, h2, fun m' _ hm' => by rw [hm] at hm'; cases hm'; exact h4⟩⟩ <;> simp only [go_sem, t0, t5, t6, t7] <;> rfl
          · have h3 : i = 0 := by simp at h3; omega
            simp -dsimp only [↓reduceIte, go_sem, t0, t5, t6, t7]
            rw [wrap_i64 (by omega) (by omega)]
            refine later_intro ⟨i + 1, by omega, by omega, rfl, ?_, ?_, ?_, ?_, step ⟨h1, h2, fun m' h _ => by omega⟩⟩ <;> simp only [go_sem, t0, t5, t6, t7] <;> rfl
        · have h2 : ¬ n ≤ 1099511627776 := by simpa using h2
          simp -dsimp only [↓reduceIte, go_sem, t0, t5, t6, t7]
          exact bad fun h => h2 h.2.1
      · have h1 : ¬ 0 ≤ n := by simpa using h1
        simp -dsimp only [↓reduceIte, go_sem, t0, t5, t6, t7]
        exact bad fun h => h1 h.1
    · have hb : i = l.length := by simp at hb; omega
      subst hb
      rw [show decide (Rises l) = true by simpa using risesTo_all hr] at hK
      simp -dsimp only [↓reduceIte, go_sem, t0, t5, t6, t7]
      exact hK
end Go.Aff.L25

/- Layer 25, walked: the reference's numbers that rise; lists compared; parts. -/
namespace Go.Aff.L25
open Go.Proofs Go.Aff Go.Aff.L01 Classical
set_option linter.unusedVariables false
set_option linter.unusedSimpArgs false
attribute [local go_sem] Try.underlying3 Try.underlying4 Try.underlying5 Try.underlying9 Try.underlying22 Try.underlying23 Try.underlying26 Try.underlying44 Try.underlying47 Try.underlying53 fits3 fits9 fits53 p53_0 p53_1

theorem rise_c {l : List Int} {tk : Tk} {σ : AST} {K : AV → AST → Prop} (hK : K (.bool (decide (Rises l))) σ) : TCalls Try.prog 24 [.slice tk (l.map (AV.int .i64))] σ K := by
  refine tcalls_walk Try.f24 _ [.tmp 2] Try.func24 rfl rfl rfl mixed (Nat.le_of_ble_eq_true rfl) rfl fun hlen => ?_
  have hs : l.length ≤ 9223372036854775807 := by
    have := hlen (.slice tk (l.map (AV.int .i64))) (by simp)
    simp only [lenOk, List.length_map, maxL] at this; exact this
  simp -dsimp only [↓reduceIte, go_sem]
  refine awp_rounds (fun (i : Nat) τ s => i ≤ l.length ∧ s = σ ∧ τ 0 = .slice tk (l.map (AV.int .i64)) ∧ τ 3 = .int .i64 i ∧ RisesTo l i) (fun i => l.length - i) 0 ?_ ?_
  · refine ⟨by omega, rfl, ?_, ?_, risesTo_zero⟩ <;> simp only [go_sem] <;> rfl
  · rintro i τ s ⟨hi, rfl, t0, t3, hr⟩
    simp -dsimp only [↓reduceIte, go_sem, t0, t3]
    refine arr_intro fun _ => ?_
    simp only [List.length_map]
    simp -dsimp only [↓reduceIte, go_sem, t0, t3]
    refine boolW_split (fun hb => ?_) (fun hb => ?_)
    · have hb : i < l.length := by simp at hb; omega
      obtain ⟨n, hn⟩ := get_lt hb
      have bad : ¬ (0 ≤ n ∧ n ≤ 1099511627776 ∧ ∀ m, 0 < i → l[i - 1]? = some m → m < n) → K (.bool false) s := fun h => by
        rw [rises_no hn h] at hK; exact hK
      have step : (0 ≤ n ∧ n ≤ 1099511627776 ∧ ∀ m, 0 < i → l[i - 1]? = some m → m < n) → RisesTo l (i + 1) := fun h => risesTo_step hr hn h.1 h.2.1 h.2.2
      simp -dsimp only [↓reduceIte, go_sem, t0, t3]
      refine awp_drawS [0, 1, 2, 3, 4, 5, 6, 7, 8, 9, 10, 11, 12, 13, 14, 15, 16, 17, 18, 19, 20, 21, 22, 23, 24, 25, 26, 27] (by kernel_rfl) ?_
      simp -dsimp only [↓reduceIte, go_sem, t0, t3]
      refine nth_get hn ?_
      simp -dsimp only [↓reduceIte, go_sem, t0, t3]
      refine guardV_split (fun h1 => ?_) (fun h1 => ?_) <;> (try rw [h1])
      · have h1 : 0 ≤ n := by simpa using h1
        simp -dsimp only [↓reduceIte, go_sem, t0, t3]
        refine nth_get hn ?_
        simp -dsimp only [↓reduceIte, go_sem, t0, t3]
        refine guardV_split (fun h2 => ?_) (fun h2 => ?_) <;> (try rw [h2])
        · have h2 : n ≤ 1099511627776 := by simpa using h2
          simp -dsimp only [↓reduceIte, go_sem, t0, t3]
          refine guardV_split (fun h3 => ?_) (fun h3 => ?_) <;> (try rw [h3])
          · have h3 : 0 < i := by simp at h3; omega
            obtain ⟨m, hm⟩ := get_lt (l := l) (i := i - 1) (by omega)
            simp -dsimp only [↓reduceIte, go_sem, t0, t3]
            rw [wrap_i64 (by omega) (by omega), show (i : Int) - 1 = ((i - 1 : Nat) : Int) by omega]
            refine nth_get hm ?_
            simp -dsimp only [↓reduceIte, go_sem, t0, t3]
            refine nth_get hn ?_
            simp -dsimp only [↓reduceIte, go_sem, t0, t3]
            refine boolW_split (fun h4 => ?_) (fun h4 => ?_)
            · have h4 : n ≤ m := by simpa using h4
              simp -dsimp only [↓reduceIte, go_sem, t0, t3]
              exact bad fun h => by have := h.2.2 m h3 hm; omega
            · have h4 : m < n := by simpa using h4
              simp -dsimp only [↓reduceIte, go_sem, t0, t3]
              rw [wrap_i64 (by omega) (by omega)]
              refine later_intro ⟨i + 1, by omega, by omega, rfl, ?_, ?_, step ⟨h1, h2, fun m' _ hm' => by rw [hm] at hm'; cases hm'; exact h4⟩⟩ <;> simp only [go_sem, t0, t3] <;> rfl
          · have h3 : i = 0 := by simp at h3; omega
            simp -dsimp only [↓reduceIte, go_sem, t0, t3]
            rw [wrap_i64 (by omega) (by omega)]
            refine later_intro ⟨i + 1, by omega, by omega, rfl, ?_, ?_, step ⟨h1, h2, fun m' h _ => by omega⟩⟩ <;> simp only [go_sem, t0, t3] <;> rfl
        · have h2 : ¬ n ≤ 1099511627776 := by simpa using h2
          simp -dsimp only [↓reduceIte, go_sem, t0, t3]
          exact bad fun h => h2 h.2.1
      · have h1 : ¬ 0 ≤ n := by simpa using h1
        simp -dsimp only [↓reduceIte, go_sem, t0, t3]
        exact bad fun h => h1 h.1
    · have hb : i = l.length := by simp at hb; omega
      subst hb
      rw [show decide (Rises l) = true by simpa using risesTo_all hr] at hK
      simp -dsimp only [↓reduceIte, go_sem, t0, t3]
      exact hK

theorem eq_no {α : Type} {a b : List α} {i : Nat} {x y : α} (hx : a[i]? = some x) (hy : b[i]? = some y) (h : x ≠ y) : a ≠ b := by
  rintro rfl
  rw [hx] at hy; cases hy; exact h rfl
theorem take_eq {α : Type} {a b : List α} {i : Nat} {x : α} (h : a.take i = b.take i) (hx : a[i]? = some x) (hy : b[i]? = some x) : a.take (i + 1) = b.take (i + 1) := by
  rw [List.take_add_one, List.take_add_one, h, hx, hy]

theorem equalInts_c {a b : List Int} {ta tb : Tk} {σ : AST} {K : AV → AST → Prop} (hK : K (.bool (decide (a = b))) σ) : TCalls Try.prog 38 [.slice ta (a.map (AV.int .i64)), .slice tb (b.map (AV.int .i64))] σ K := by
  refine tcalls_walk Try.f38 _ [.tmp 4] Try.func38 rfl rfl rfl mixed (Nat.le_of_ble_eq_true rfl) rfl fun hlen => ?_
  have ha : a.length ≤ 9223372036854775807 := by
    have := hlen (.slice ta (a.map (AV.int .i64))) (by simp)
    simp only [lenOk, List.length_map, maxL] at this; exact this
  simp -dsimp only [↓reduceIte, go_sem]
  refine arr_intro fun _ => ?_
  simp -dsimp only [↓reduceIte, go_sem]
  refine arr_intro fun _ => ?_
  simp only [List.length_map]
  simp -dsimp only [↓reduceIte, go_sem]
  refine boolW_split (fun h1 => ?_) (fun h1 => ?_)
  · have h1 : a.length ≠ b.length := by simp at h1; omega
    rw [show decide (a = b) = false by simp; intro h; rw [h] at h1; exact h1 rfl] at hK
    simp -dsimp only [↓reduceIte, go_sem]
    exact hK
  · have h1 : a.length = b.length := by simp at h1; omega
    simp -dsimp only [↓reduceIte, go_sem]
    refine arr_intro fun _ => ?_
    simp only [List.length_map]
    simp -dsimp only [↓reduceIte, go_sem]
    refine awp_rounds (fun (i : Nat) τ s => s = σ ∧ i ≤ a.length ∧ τ 0 = .slice ta (a.map (AV.int .i64)) ∧ τ 1 = .slice tb (b.map (AV.int .i64)) ∧ τ 12 = .int .i64 a.length ∧ τ 13 = .int .i64 i ∧ a.take i = b.take i) (fun i => a.length - i) 0 ?_ ?_
    · refine ⟨rfl, by omega, ?_, ?_, ?_, ?_, by simp⟩ <;> simp only [go_sem] <;> rfl
    · rintro i τ s ⟨rfl, hi, t0, t1, t12, t13, ht⟩
      simp -dsimp only [↓reduceIte, go_sem, t0, t1, t12, t13]
      refine boolW_split (fun h2 => ?_) (fun h2 => ?_)
      · have h2 : i < a.length := by simp at h2; omega
        obtain ⟨x, hx⟩ := get_lt h2
        obtain ⟨y, hy⟩ := get_lt (l := b) (i := i) (by omega)
        simp -dsimp only [↓reduceIte, go_sem, t0, t1, t12, t13]
        refine awp_drawS [0, 1, 2, 3, 4, 5, 6, 7, 8] (by kernel_rfl) ?_
        simp -dsimp only [↓reduceIte, go_sem, t0, t1, t12, t13]
        refine nth_get hx ?_
        simp -dsimp only [↓reduceIte, go_sem, t0, t1, t12, t13]
        refine nth_get hy ?_
        simp -dsimp only [↓reduceIte, go_sem, t0, t1, t12, t13]
        refine boolW_split (fun h3 => ?_) (fun h3 => ?_)
        · have h3 : x ≠ y := by simpa using h3
          rw [decide_eq_false (eq_no hx hy h3)] at hK
          simp -dsimp only [↓reduceIte, go_sem, t0, t1, t12, t13]
          exact hK
        · have h3 : x = y := by simpa using h3
          subst h3
          simp -dsimp only [↓reduceIte, go_sem, t0, t1, t12, t13]
          rw [wrap_i64 (by omega) (by omega)]
          refine later_intro ⟨i + 1, by omega, rfl, by omega, ?_, ?_, ?_, ?_, take_eq ht hx hy⟩ <;> simp only [go_sem, t0, t1, t12, t13] <;> rfl
      · have h2 : i = a.length := by simp at h2; omega
        subst h2
        rw [show decide (a = b) = true by rw [List.take_length, h1, List.take_length] at ht; simpa using ht] at hK
        simp -dsimp only [↓reduceIte, go_sem, t0, t1, t12, t13]
        exact hK

theorem eqA_piece {x y : Int × List UInt8} : eqA Try.prog 40 53 (pieceV x) (pieceV y) = some (decide (x = y)) := by
  obtain ⟨n, s⟩ := x
  obtain ⟨m, t⟩ := y
  have h1 : Try.prog.stoodInHeld 53 = false := by kernel_rfl
  simp [eqA, eqAs, pieceV, Try.underlying53, Try.underlying3, Try.underlying9, h1, AV.sizes, AV.size, agg3, agg9, cells3, cells9, AV.isAgg]
  cases h : (n == m) <;> cases h2 : (s == t) <;> simp_all
theorem piece_isAgg {x : Int × List UInt8} : (pieceV x).isAgg = true := rfl
theorem piece_size {x : Int × List UInt8} : (pieceV x).size = 2 := by simp [pieceV, AV.size, AV.sizes]
theorem piece_known {x : Int × List UInt8} : (pieceV x).known = true := rfl
theorem ne_piece {x y : Int × List UInt8} {KV : AV → Prop} (hK : KV (.bool (!decide (x = y)))) : binW Try.prog .neq 53 (pieceV x) (pieceV y) KV := by
  have h := eqA_piece (x := x) (y := y)
  unfold pieceV at h ⊢
  exact ⟨by kernel_rfl, _, h, hK⟩

theorem equalPieces_c {a b : List (Int × List UInt8)} {ta tb : Tk} {σ : AST} {K : AV → AST → Prop} (hK : K (.bool (decide (a = b))) σ) : TCalls Try.prog 37 [.slice ta (a.map pieceV), .slice tb (b.map pieceV)] σ K := by
  refine tcalls_walk Try.f37 _ [.tmp 4] Try.func37 rfl rfl rfl mixed (Nat.le_of_ble_eq_true rfl) rfl fun hlen => ?_
  have ha : a.length ≤ 9223372036854775807 := by
    have := hlen (.slice ta (a.map pieceV)) (by simp)
    simp only [lenOk, List.length_map, maxL] at this; exact this
  simp -dsimp only [↓reduceIte, go_sem]
  refine arr_intro fun _ => ?_
  simp -dsimp only [↓reduceIte, go_sem]
  refine arr_intro fun _ => ?_
  simp only [List.length_map]
  simp -dsimp only [↓reduceIte, go_sem]
  refine boolW_split (fun h1 => ?_) (fun h1 => ?_)
  · have h1 : a.length ≠ b.length := by simp at h1; omega
    rw [show decide (a = b) = false by simp; intro h; rw [h] at h1; exact h1 rfl] at hK
    simp -dsimp only [↓reduceIte, go_sem]
    exact hK
  · have h1 : a.length = b.length := by simp at h1; omega
    simp -dsimp only [↓reduceIte, go_sem]
    refine arr_intro fun _ => ?_
    simp only [List.length_map]
    simp -dsimp only [↓reduceIte, go_sem]
    refine awp_rounds (fun (i : Nat) τ s => s = σ ∧ i ≤ a.length ∧ τ 0 = .slice ta (a.map pieceV) ∧ τ 1 = .slice tb (b.map pieceV) ∧ τ 12 = .int .i64 a.length ∧ τ 13 = .int .i64 i ∧ a.take i = b.take i) (fun i => a.length - i) 0 ?_ ?_
    · refine ⟨rfl, by omega, ?_, ?_, ?_, ?_, by simp⟩ <;> simp only [go_sem] <;> rfl
    · rintro i τ s ⟨rfl, hi, t0, t1, t12, t13, ht⟩
      simp -dsimp only [↓reduceIte, go_sem, t0, t1, t12, t13]
      refine boolW_split (fun h2 => ?_) (fun h2 => ?_)
      · have h2 : i < a.length := by simp at h2; omega
        obtain ⟨x, hx⟩ := get_lt h2
        obtain ⟨y, hy⟩ := get_lt (l := b) (i := i) (by omega)
        simp -dsimp only [↓reduceIte, go_sem, t0, t1, t12, t13]
        refine awp_drawS [0, 1, 2, 3, 4, 5, 6, 7, 8] (by kernel_rfl) ?_
        simp -dsimp only [↓reduceIte, go_sem, t0, t1, t12, t13]
        refine nth_get hx ?_
        simp -dsimp only [↓reduceIte, go_sem, t0, t1, t12, t13, piece_isAgg, piece_size, piece_known]
        refine nth_get hy ?_
        simp -dsimp only [↓reduceIte, go_sem, t0, t1, t12, t13, piece_isAgg, piece_size, piece_known]
        refine ne_piece ?_
        by_cases h3 : x = y
        · subst h3
          rw [decide_eq_true rfl]
          simp -dsimp only [↓reduceIte, go_sem, t0, t1, t12, t13]
          rw [wrap_i64 (by omega) (by omega)]
          refine later_intro ⟨i + 1, by omega, rfl, by omega, ?_, ?_, ?_, ?_, take_eq ht hx hy⟩ <;> simp only [go_sem, t0, t1, t12, t13] <;> rfl
        · rw [decide_eq_false h3]
          rw [decide_eq_false (eq_no hx hy h3)] at hK
          simp -dsimp only [↓reduceIte, go_sem, t0, t1, t12, t13]
          exact hK
      · have h2 : i = a.length := by simp at h2; omega
        subst h2
        rw [show decide (a = b) = true by rw [List.take_length, h1, List.take_length] at ht; simpa using ht] at hK
        simp -dsimp only [↓reduceIte, go_sem, t0, t1, t12, t13]
        exact hK

def intS (l : List Int) : AV := slS (AV.int .i64) l
def strS' (l : List (List UInt8)) : AV := slS AV.str l
theorem strip_int (x : Int) : (AV.int .i64 x).strip = AV.int .i64 x := by simp [AV.strip]
theorem strip_str (x : List UInt8) : (AV.str x).strip = AV.str x := by simp [AV.strip]

attribute [local go_sem] push_app app_app length_app cellAt_app cellAt_app0 set_app set_app0 objs_app objs_app0 List.cons_append List.nil_append List.length_cons List.length_nil List.getElem?_cons_zero List.getElem?_cons_succ List.set_cons_zero List.set_cons_succ
attribute [-go_sem] cellAt_new
theorem parts_c {l : List (Int × List UInt8)} {tk : Tk} {σ : AST} {K : AV → AST → Prop} (hl : l.length ≤ 5864062014634) (hK : K (.tuple [slS (AV.int .i64) (l.map (·.1)), slS AV.str (l.map (·.2))]) σ) : TCalls Try.prog 21 [.slice tk (l.map pieceV)] σ K := by
  refine TCalls.drop ?_
  refine tcalls_walk Try.f21 _ [.tmp 2, .tmp 3] Try.func21 rfl rfl rfl mixed (Nat.le_of_ble_eq_true rfl) rfl fun hlen => ?_
  simp -dsimp only [↓reduceIte, go_sem]
  refine arr_intro fun _ => ?_
  simp only [List.length_map]
  simp -dsimp only [↓reduceIte, go_sem]
  refine awp_rounds (fun (i : Nat) τ s => i ≤ l.length ∧ Ext σ s ∧ τ 8 = .slice tk (l.map pieceV) ∧ τ 9 = .int .i64 l.length ∧ τ 10 = .int .i64 i ∧ ∃ ta tb, canApp s ta i 1 ∧ canApp s tb i 1 ∧ apart ta tb ∧ tkNew σ ta ∧ tkNew σ tb ∧
    (i = 0 → ta = .full ∧ tb = .full) ∧ (0 < i → (∃ k, ta = .own k) ∧ ∃ k, tb = .own k) ∧ τ 4 = .slice ta (((l.take i).map (·.1)).map (AV.int .i64)) ∧ τ 5 = .slice tb (((l.take i).map (·.2)).map AV.str)) (fun i => l.length - i) 0 ?_ ?_
  · refine ⟨by omega, Ext.refl _, ?_, ?_, ?_, .full, .full, trivial, trivial, apart_full, .inl rfl, .inl rfl, fun _ => ⟨rfl, rfl⟩, fun h => by omega, ?_, ?_⟩ <;> simp only [go_sem] <;> rfl
  · rintro i τ s ⟨hi, hx, t8, t9, t10, ta, tb, ca, cb, hab, na, nb, hz, hp, t4, t5⟩
    simp -dsimp only [↓reduceIte, go_sem, t4, t5, t8, t9, t10]
    refine boolW_split (fun hb => ?_) (fun hb => ?_)
    · have hb : i < l.length := by simp at hb; omega
      obtain ⟨x, hx1⟩ := get_lt hb
      simp -dsimp only [↓reduceIte, go_sem, t4, t5, t8, t9, t10]
      refine nth_get hx1 ?_
      simp -dsimp only [↓reduceIte, go_sem, t4, t5, t8, t9, t10, piece_isAgg, piece_size, piece_known]
      rw [zero53]
      refine ⟨zeroOf53, later_intro ?_⟩
      simp -dsimp only [↓reduceIte, go_sem, t4, t5, t8, t9, t10, piece_isAgg, piece_size, piece_known]
      refine side_later (by simp [pieceV, AV.shape, AV.shapes]) ?_
      simp -dsimp only [↓reduceIte, go_sem, t4, t5, t8, t9, t10, pieceV, List.getElem?_cons_zero, List.getElem?_cons_succ]
      refine build_slice E23 rfl (by decide) ?_ ?_
      · intro v hv
        simp at hv; subst hv
        exact ⟨by simp only [go_sem], rfl⟩
      simp -dsimp only [↓reduceIte, go_sem, t4, t5, t8, t9, t10, pieceV]
      refine append_slice E23 (by rfl) (by simp only [canApp_app]; simpa [Nat.min_eq_left (Nat.le_of_lt hb)] using ca) (by intro v hv; simp at hv; subst hv; simp only [go_sem]) size_ints (by simp; omega) (by simp [maxL]; omega) ?_
      simp -dsimp only [↓reduceIte, go_sem, t4, t5, t8, t9, t10, pieceV]
      refine build_slice E47 rfl (by decide) ?_ ?_
      · intro v hv
        simp at hv; subst hv
        exact ⟨by simp only [go_sem], rfl⟩
      have hmin : min i l.length = i := Nat.min_eq_left (Nat.le_of_lt hb)
      have hl1 : ((l.take i).map (·.1)).length = i := by simp [hmin]
      have hl2 : ((l.take i).map (·.2)).length = i := by simp [hmin]
      have hl3 : (((l.take i).map (·.2)).map AV.str).length = i := by simp [hmin]
      have hl4 : (((l.take i).map (·.1)).map (AV.int .i64)).length = i := by simp [hmin]
      rw [hl4]
      simp -dsimp only [↓reduceIte, go_sem, t4, t5, t8, t9, t10, pieceV]
      refine append_slice E47 (by rfl) (by rw [hl3]; exact canApp_apart hab (by rw [canApp_app]; exact cb)) (by intro v hv; simp at hv; subst hv; simp only [go_sem]) size_strs (by simp; omega) (by simp [maxL]; omega) ?_
      simp -dsimp only [↓reduceIte, go_sem, t4, t5, t8, t9, t10, pieceV]
      rw [wrap_i64 (by omega) (by omega)]
      have htk : l.take (i + 1) = l.take i ++ [x] := by rw [List.take_add_one, hx1]; rfl
      rw [hl3]
      have ca' : canApp (s.app [AObj.cells (.agg [.int .i64 x.1, .str x.2])]) ta i 1 := by rw [canApp_app]; exact ca
      have cb' : canApp (s.app [AObj.cells (.agg [.int .i64 x.1, .str x.2])]) tb i 1 := by rw [canApp_app]; exact cb
      generalize hS : s.app [AObj.cells (.agg [.int .i64 x.1, .str x.2])] = S at *
      have hx2 : Ext σ S := by rw [← hS]; exact hx.trans (Ext.app _ _)
      have e1 := apart_grow hab cb'
      have cb2 := canApp_apart (n := i + 1) (e := 1) hab cb'
      have ca2 := canApp_grow (n := i + 1) (es := 1) ca'
      refine later_intro ⟨i + 1, by omega, by omega, (hx2.grow na).grow nb, ?_, ?_, ?_, growT S ta, growT (growS S ta (i + 1) 1) tb, ?_, ?_, ?_, ?_, ?_, fun h => by omega, fun _ => ?_, ?_, ?_⟩ <;> (try simp only [go_sem, t4, t5, t8, t9, t10]) <;> try rfl
      · exact canApp_apart e1.symm ca2
      · exact canApp_grow cb2
      · exact (apart_grow e1.symm ca2).symm
      · exact na.grow hx2
      · exact nb.grow (hx2.grow na)
      · constructor
        · rcases na.grow hx2 with h | ⟨k, h, _⟩
          · cases ta <;> simp [growT] at h
          · exact ⟨k, h⟩
        · rcases nb.grow (hx2.grow (n := i + 1) (es := 1) na) with h | ⟨k, h, _⟩
          · cases tb <;> simp [growT] at h
          · exact ⟨k, h⟩
      · rw [htk]; simp
      · rw [htk]; simp
    · have hb : i = l.length := by simp at hb; omega
      subst hb
      rw [List.take_length] at t4 t5
      simp -dsimp only [↓reduceIte, go_sem, t4, t5, t8, t9, t10]
      have fa : tkF (l.map (·.1)) ta ∧ tkF (l.map (·.2)) tb := by
        by_cases h0 : l = []
        · subst h0
          obtain ⟨h1, h2⟩ := hz rfl
          exact ⟨.inl ⟨rfl, h1⟩, .inl ⟨rfl, h2⟩⟩
        · obtain ⟨h1, h2⟩ := hp (List.length_pos_iff.2 h0)
          exact ⟨.inr ⟨by simpa using h0, h1⟩, .inr ⟨by simpa using h0, h2⟩⟩
      refine ⟨hx, ?_, ?_⟩
      · simp only [AV.noRef, AV.noRefs, noRefs_leaf (f := AV.int .i64) (fun _ => rfl), noRefs_leaf (f := AV.str) (fun _ => rfl), Bool.and_self]
      · simp only [AV.strip, AV.strips]
        have := hK
        rw [← strip_tkF strip_int fa.1, ← strip_tkF strip_str fa.2] at this
        simpa only [AV.strip] using this
end Go.Aff.L25

