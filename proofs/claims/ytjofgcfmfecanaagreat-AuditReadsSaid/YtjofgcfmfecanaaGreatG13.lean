import Derived.Test.YtjofgcfmfecanaaGreatG12
import Derived.Test.YtjofgcfmfecanaaGreatG10
import Derived.Test.YtjofgcfmfecanaaGreatG1

set_option linter.unusedSimpArgs false
set_option linter.unusedVariables false

/- Layer 10, walked: digests, answers read. -/
namespace Go.Aff.L10
open Go.Proofs Go.Aff Go.Aff.L01 Classical
set_option linter.unusedVariables false
set_option linter.unusedSimpArgs false
set_option maxRecDepth 20000
attribute [local go_sem] push_app app_app length_app cellAt_app cellAt_app0 set_app set_app0 objs_app objs_app0 List.cons_append List.nil_append List.length_cons List.length_nil List.getElem?_cons_zero List.getElem?_cons_succ List.set_cons_zero List.set_cons_succ List.length_map
attribute [-go_sem] cellAt_new
attribute [-simp] List.length_flatMap
attribute [local go_sem] Tryz.underlying3 Tryz.underlying4 Tryz.underlying5 Tryz.underlying9 Tryz.underlying39 Tryz.underlying40 Tryz.underlying43 Tryz.underlying25 Tryz.underlying50 Tryz.underlying76 subPs_0 subAt_0 subSet_0 subPs_1 subAt_1 subSet_1 subPs_2 subAt_2 subSet_2 subPs_3 subAt_3 subSet_3 subPs_4 subAt_4 subSet_4 subPs_5 subAt_5 subSet_5 sizes_sub shapes_sub fits_sub zero_sub zt_sub built_sub Tryz.underlying42 pendPs_0 pendAt_0 pendSet_0 pendPs_1 pendAt_1 pendSet_1 pendPs_2 pendAt_2 pendSet_2 pendPs_3 pendAt_3 pendSet_3 pendPs_4 pendAt_4 pendSet_4 pendPs_5 pendAt_5 pendSet_5 sizes_pend shapes_pend fits_pend zero_pend zt_pend built_pend Tryz.underlying104 repPs_0 repAt_0 repSet_0 repPs_1 repAt_1 repSet_1 repPs_2 repAt_2 repSet_2 repPs_3 repAt_3 repSet_3 repPs_4 repAt_4 repSet_4 repPs_5 repAt_5 repSet_5 repPs_6 repAt_6 repSet_6 repPs_7 repAt_7 repSet_7 repPs_8 repAt_8 repSet_8 repPs_9 repAt_9 repSet_9 sizes_rep shapes_rep fits_rep zero_rep zt_rep built_rep Tryz.underlying45 blobPs_0 blobAt_0 blobSet_0 blobPs_1 blobAt_1 blobSet_1 blobPs_2 blobAt_2 blobSet_2 blobPs_3 blobAt_3 blobSet_3 sizes_blob shapes_blob fits_blob zero_blob zt_blob built_blob Tryz.underlying47 msgPs_0 msgAt_0 msgSet_0 msgPs_1 msgAt_1 msgSet_1 msgPs_2 msgAt_2 msgSet_2 msgPs_3 msgAt_3 msgSet_3 msgPs_4 msgAt_4 msgSet_4 msgPs_5 msgAt_5 msgSet_5 msgPs_6 msgAt_6 msgSet_6 msgPs_7 msgAt_7 msgSet_7 msgPs_8 msgAt_8 msgSet_8 msgPs_9 msgAt_9 msgSet_9 sizes_msg shapes_msg fits_msg zero_msg zt_msg built_msg Tryz.underlying49 at_Ps_0 at_At_0 at_Set_0 at_Ps_1 at_At_1 at_Set_1 sizes_at_ shapes_at_ fits_at_ zero_at_ zt_at_ built_at_ Tryz.underlying62
attribute [local go_sem] fits3 fits4 fits5 fits9 fits23 fits26 fits31 fits34 fits52 zt3 zero3 zt34 zero34 zt23 zero23 bin_sub_eql bin_pend_eql bin_pend_neq bin_blob_eql bin_dig23_eql bin_dig23_neq slice23
attribute [local go_sem ↓] blockQ_exit2
attribute [local simp] dig_ext
attribute [local go_sem] rdrPs_0 rdrAt_0 rdrSet_0 rdrPs_1 rdrAt_1 rdrSet_1 rdrPs_2 rdrAt_2 rdrSet_2 sizes_rdr shapes_rdr fits_rdr zero_rdr zt_rdr built_rdr Tryz.underlying133 Tryz.underlying131 Tryz.underlying136

section
variable {s : AST} {j k : Nat} {o : AObj} {v : AV} {p : List Nat}
theorem cellAt_setS (h : k < s.objs.length) : cellAt (s.set k (.cells v)) k p = v.at p := cellAt_known (by simp only [AST.set]; rw [List.getElem?_set_self h]) p
theorem cellAt_setN (h : j ≠ k) : cellAt (s.set j o) k p = cellAt s k p := by simp only [cellAt, AST.set]; rw [List.getElem?_set_ne h]
theorem objs_setS (h : k < s.objs.length) : (s.set k o).objs[k]? = some o := by simp only [AST.set]; rw [List.getElem?_set_self h]
theorem objs_setN (h : j ≠ k) : (s.set j o).objs[k]? = s.objs[k]? := by simp only [AST.set]; rw [List.getElem?_set_ne h]
theorem length_set : (s.set j o).objs.length = s.objs.length := by simp [AST.set]
theorem RF.setO {σ0 : AST} {T : List (Nat × Nat)} {r : Rdr} {F : List (Nat × AObj)} (h : RF σ0 s T j r F) (hk : σ0.objs.length ≤ k) (hj : k ≠ j) (hF : ∀ x ∈ F, x.1 ≠ k) : RF σ0 (s.set k o) T j r F := by
  refine ⟨h.x.set hk, h.t, h.jn, by rw [objs_setN hj]; exact h.o, fun x hx => ⟨(h.f x hx).1, by rw [objs_setN (hF x hx).symm]; exact (h.f x hx).2⟩, h.p, h.l⟩
theorem RF.lt {σ0 : AST} {T : List (Nat × Nat)} {r : Rdr} {F : List (Nat × AObj)} (h : RF σ0 s T j r F) : ∀ x ∈ F, x.1 ≠ s.objs.length := fun x hx => by
  have := (List.getElem?_eq_some_iff.1 (h.f x hx).2).1; omega
theorem RF.le {σ0 : AST} {T : List (Nat × Nat)} {r : Rdr} {F : List (Nat × AObj)} (h : RF σ0 s T j r F) : σ0.objs.length ≤ s.objs.length := by
  have := h.jn; have := (List.getElem?_eq_some_iff.1 h.o).1; omega
end
def digOf (t : List UInt8) : Dig × Int := if h : t.length = 32 then (⟨t, h⟩, 0) else (dig0, if t.length < 32 then 5 else 6)
theorem digest_c {t : List UInt8} {σ : AST} {K : AV → AST → Prop} (hK : K (.tuple [.dig (digOf t).1, .int .i64 (digOf t).2]) σ) : TCalls Tryz.prog 101 [.str t] σ K := by
  refine TCalls.drop ?_
  refine tcalls_walk Tryz.f101 _ [.cell 2 40, .tmp 3] Tryz.func101 rfl rfl rfl mixed (Nat.le_of_ble_eq_true rfl) rfl fun hlen => ?_
  repeat' (first | (simp -dsimp only [↓reduceIte, go_sem, slice23 (σ := σ)]) | (refine arr_intro fun _ => ?_) | (rw [wrap_i64 (by omega) (by omega)]) | (refine guardV_split (fun h => ?_) (fun h => ?_) <;> (try rw [h]) <;> (try simp at h) <;> (try (exfalso; omega))))
  · have e : digOf t = (dig0, 5) := by unfold digOf; rw [dif_neg (by omega), if_pos (by omega)]
    rw [e] at hK
    exact ⟨Ext.app _ _, rfl, by simpa [AV.strip, AV.strips] using hK⟩
  · have e : digOf t = (dig0, 6) := by unfold digOf; rw [dif_neg (by omega), if_neg (by omega)]
    rw [e] at hK
    exact ⟨Ext.app _ _, rfl, by simpa [AV.strip, AV.strips] using hK⟩
  · have h32 : t.length = 32 := by omega
    have e : digOf t = (⟨t, h32⟩, 0) := by unfold digOf; rw [dif_pos h32]
    rw [e] at hK
    refine copy_dig Tryz.underlying76 (by kernel_rfl) ⟨_, Tryz.underlying5⟩ (dg := dig0) (by simp [AST.app]) h32 ?_
    repeat' (first | (simp -dsimp only [↓reduceIte, go_sem]) | (refine arr_intro fun _ => ?_) | (rw [wrap_i64 (by omega) (by omega)]) | (refine guardV_split (fun h => ?_) (fun h => ?_) <;> (try rw [h]) <;> (try simp at h) <;> (try (exfalso; omega))))
    exact ⟨Ext.app _ _, rfl, by simpa [AV.strip, AV.strips] using hK⟩
noncomputable def Rdr.dig (r : Rdr) : Dig × Rdr := ((digOf r.text.1).1, if r.text.2.e = 0 ∧ (digOf r.text.1).2 ≠ 0 then { r.text.2 with e := 6 } else r.text.2)
theorem rdig_c {r : Rdr} {T : List (Nat × Nat)} {j : Nat} {F : List (Nat × AObj)} {σ0 σ : AST} {K : AV → AST → Prop} (h : RF σ0 σ T j r F) (hK : ∀ s, RF σ0 s T j r.dig.2 F → K (.dig r.dig.1) s) : TCalls Tryz.prog 88 [.ptr (some (j, []))] σ K := by
  refine tcalls_walk Tryz.f88 _ [.cell 2 40] Tryz.func88 rfl rfl rfl mixed (Nat.le_of_ble_eq_true rfl) rfl fun hlen => ?_
  simp -dsimp only [↓reduceIte, go_sem]
  have hle := h.le
  have hlt := h.lt
  have hR := h.push (o := .cells (.dig dig0))
  generalize hk : σ.objs.length = k at hR hle hlt
  refine rtext_c hR fun s hR => ?_
  simp -dsimp only [↓reduceIte, go_sem, hk]
  refine digest_c ?_
  have hR := hR.push (o := .cells (.dig (digOf r.text.1).1))
  repeat' (first | (simp -dsimp only [↓reduceIte, go_sem, hk]) | (refine arr_intro fun _ => ?_) | (rw [wrap_i64 (by omega) (by omega)]) | (refine guardV_split (fun h => ?_) (fun h => ?_) <;> (try rw [h]) <;> (try simp at h) <;> (try (exfalso; omega))))
  generalize hk2 : s.objs.length = k2 at hR
  generalize s.app [.cells (.dig (digOf r.text.1).1)] = s at hR
  have c := cellAt_known hR.o
  have ho := hR.o
  have hj := (List.getElem?_eq_some_iff.1 hR.o).1
  have hk1 := hR.f (k, .cells (.dig dig0)) (by simp)
  have hk2 := hR.f (k2, .cells (.dig (digOf r.text.1).1)) (by simp)
  dsimp only at hk1 hk2
  have hkl := (List.getElem?_eq_some_iff.1 hk1.2).1
  have c2 := cellAt_known hk2.2
  have n1 := hk1.1
  have n2 := hk2.1
  have n3 := hk2.1.symm
  have n4 := hk1.1.symm
  have m := hR.mono (G := F) (by simp +contextual)
  repeat' (first | (simp -dsimp only [↓reduceIte, go_sem, c, ho, hk1.2, hk2.2, c2, cellAt_setN, cellAt_setS, objs_setN, objs_setS, length_set, n1, n2, n3, n4, hkl]) | (refine arr_intro fun _ => ?_) | (rw [wrap_i64 (by omega) (by omega)]) | (refine guardV_split (fun h => ?_) (fun h => ?_) <;> (try rw [h]) <;> (try simp at h) <;> (try (exfalso; omega))))
  · have e : r.dig = ((digOf r.text.1).1, { r.text.2 with e := 6 }) := by simp [Rdr.dig, *]
    rw [e] at hK
    exact hK _ ((m.err (by decide)).setO hle n1 hlt)
  all_goals
    have e : r.dig = ((digOf r.text.1).1, r.text.2) := by simp [Rdr.dig, *]
    rw [e] at hK
    exact hK _ (m.setO hle n1 hlt)
end Go.Aff.L10

/- Drawn regions by trees of orders, where what was read need not stay for ever. -/
namespace Go.Aff
set_option linter.unusedVariables false
set_option linter.unusedSimpArgs false

variable {P : Program} {σ σ' : AST} {ops : Array Oper} {τ : Env} {KE : Env → AST → Prop}

/-- Orders with a word on each operation: 0: it reads, and that must stay; 1: it may leave something behind; 2: it reads, and stands ahead of all from the first on that leaves something behind; 3: it leaves nothing behind. -/
inductive Tu where
  | nil
  | op (i k : Nat) (r : Tu)
  | fork (e : Nat) (a b : Tu)
  | cut (r : Tu)
def Tu.tr : Tu → Tr
  | .nil => .nil
  | .op i _ r => .op i r.tr
  | .fork e a b => .fork e a.tr b.tr
  | .cut r => r.tr
def Tu.all : Tu → List Nat
  | .nil => []
  | .op i k r => if k = 1 ∨ k = 3 then i :: r.all else r.all
  | .fork _ a b => a.all ++ b.all
  | .cut r => r.all
/-- Those from the first on that may leave something behind. -/
def Tu.effs : Tu → List Nat
  | .nil => []
  | .op i k r => if k = 1 then i :: r.all else r.effs
  | .fork _ a b => a.effs ++ b.effs
  | .cut r => r.effs
theorem Tu.effs_all : ∀ {T : Tu} {x : Nat}, x ∈ T.effs → x ∈ T.all
  | .nil, x, h => h
  | .op i k r, x, h => by
    simp only [Tu.effs] at h
    simp only [Tu.all]
    split at h
    · rename_i hk; rw [if_pos (.inl hk)]; exact h
    · have := Tu.effs_all h
      split
      · exact List.mem_cons_of_mem _ this
      · exact this
  | .fork _ a b, x, h => by
    simp only [Tu.effs, Tu.all, List.mem_append] at h ⊢
    exact h.imp Tu.effs_all Tu.effs_all
  | .cut r, x, h => by
    simp only [Tu.effs] at h
    simp only [Tu.all]
    exact Tu.effs_all h

def seqU (P : Program) (ops : Array Oper) : Tu → List Nat → Env → AST → (Env → AST → Prop) → Prop
  | .nil, ks, τ, σ, K => K τ σ
  | .op i 1 r, ks, τ, σ, K => match gop ops i with
    | none => False
    | some o => stepW P ops o τ σ fun v σ' => keeps ks σ σ' ∧ seqU P ops r ks (τ.putO o.dst v) σ' K
  | .op i 0 r, ks, τ, σ, K => match gop ops i with
    | none => False
    | some o => stepW P ops o τ σ fun v σ' => σ' = σ ∧ seqU P ops r (reads (ev τ) o.op ++ ks) (τ.putO o.dst v) σ' K
  | .op i _ r, ks, τ, σ, K => match gop ops i with
    | none => False
    | some o => stepW P ops o τ σ fun v σ' => σ' = σ ∧ seqU P ops r ks (τ.putO o.dst v) σ' K
  | .fork _ a b, ks, τ, σ, K => seqU P ops a ks τ σ K ∧ seqU P ops b ks τ σ K
  | .cut r, ks, τ, σ, K => seqU P ops r [] τ σ K

def flagsU (P : Program) (ops : Array Oper) : Tu → List Nat → Bool
  | .nil, _ => true
  | .op i k r, zs => (match ops[i]? with
    | none => false
    | some o => effO P o == (k == 1 || k == 3)) && (k == 0 || k == 1 || k == 3 || r.effs.all fun y => ahead (anc ops) y i) && flagsU P ops r (if k = 0 then i :: zs else zs)
  | .fork _ a b, zs => flagsU P ops a zs && flagsU P ops b zs
  | .cut r, zs => (zs.all fun z => r.effs.all fun y => ahead (anc ops) y z) && flagsU P ops r []

def pastU (P : Program) (ops : Array Oper) (ks zs : List Nat) (past : List (Nat × Env × AV)) (T : Tu) (σ : AST) : Prop :=
  ∀ x ∈ past, (validT P ops x σ ∧ x.1 ∈ zs ∧ ∀ o, ops[x.1]? = some o → ∀ k ∈ reads (ev x.2.1) o.op, k ∈ ks) ∨ (validT P ops x σ ∧ ∀ y ∈ T.effs, ahead (anc ops) y x.1 = true) ∨ (∀ y ∈ T.all, ahead (anc ops) y x.1 = true)

theorem seqU_pure (i k : Nat) (r : Tu) (ks zs : List Nat) (past : List (Nat × Env × AV)) (τ : Env) (σ : AST) (k0 : k ≠ 0) (k1 : k ≠ 1) (k3 : k ≠ 3)
    (ih : ∀ (past' : List (Nat × Env × AV)) (τ' : Env), flagsU P ops r zs = true → pastU P ops ks zs past' r σ → (∀ t, lenOk (τ' t)) → seqU P ops r ks τ' σ KE → awpT P ops r.tr past' τ' σ KE)
    (hf : flagsU P ops (.op i k r) zs = true) (hp : pastU P ops ks zs past (.op i k r) σ) (hlen : ∀ t, lenOk (τ t))
    (h : match gop ops i with
      | none => False
      | some o => stepW P ops o τ σ fun v σ' => σ' = σ ∧ seqU P ops r ks (τ.putO o.dst v) σ' KE) : awpT P ops (Tu.op i k r).tr past τ σ KE := by
  split at h
  · exact h.elim
  · rename_i o hk
    have hk : ops[i]? = some o := hk
    simp only [flagsU, hk, Bool.and_eq_true, beq_iff_eq] at hf
    have b0 : (k == 0) = false := by simpa using k0
    have b1 : (k == 1) = false := by simpa using k1
    have b3 : (k == 3) = false := by simpa using k3
    rw [b0, b1, b3, if_neg k0] at hf
    have he : effO P o = false := by simpa using hf.1.1
    have hall : (r.effs.all fun y => ahead (anc ops) y i) = true := by simpa using hf.1.2
    rw [List.all_eq_true] at hall
    simp only [Tu.tr, awpT, hk, he, Bool.false_eq_true, if_false]
    obtain ⟨v, hv, hkk⟩ := stepW_det hlen he h
    refine hkk _ fun hlv => ih _ _ hf.2 ?_ hlv hv.2
    intro x hx
    rcases List.mem_cons.1 hx with rfl | hx
    · right; left
      refine ⟨fun o' ho' => ?_, hall⟩
      dsimp only at ho' ⊢
      rw [hk] at ho'; cases ho'
      exact ⟨hlen, he, hkk _ ⟨rfl, rfl⟩⟩
    · rcases hp x hx with ⟨h0, h1⟩ | ⟨h0, h1⟩ | h0
      · exact .inl ⟨h0, h1⟩
      · exact .inr (.inl ⟨h0, fun y hy => h1 y (by simpa [Tu.effs, k1] using hy)⟩)
      · exact .inr (.inr fun y hy => h0 y (by simpa [Tu.all, k1, k3] using hy))
theorem seqU_awpT : ∀ (T : Tu) (ks zs : List Nat) (past : List (Nat × Env × AV)) (τ : Env) (σ : AST), flagsU P ops T zs = true → pastU P ops ks zs past T σ → (∀ t, lenOk (τ t)) → seqU P ops T ks τ σ KE → awpT P ops T.tr past τ σ KE
  | .nil, ks, zs, past, τ, σ, hf, hp, hlen, h => h
  | .fork e a b, ks, zs, past, τ, σ, hf, hp, hlen, h => by
    simp only [flagsU, Bool.and_eq_true] at hf
    simp only [seqU] at h
    refine ⟨seqU_awpT a ks zs past τ σ hf.1 (fun x hx => ?_) hlen h.1, seqU_awpT b ks zs past τ σ hf.2 (fun x hx => ?_) hlen h.2⟩
    · rcases hp x hx with h | ⟨h1, h2⟩ | h
      · exact .inl h
      · exact .inr (.inl ⟨h1, fun y hy => h2 y (by simp [Tu.effs, hy])⟩)
      · exact .inr (.inr fun y hy => h y (by simp [Tu.all, hy]))
    · rcases hp x hx with h | ⟨h1, h2⟩ | h
      · exact .inl h
      · exact .inr (.inl ⟨h1, fun y hy => h2 y (by simp [Tu.effs, hy])⟩)
      · exact .inr (.inr fun y hy => h y (by simp [Tu.all, hy]))
  | .cut r, ks, zs, past, τ, σ, hf, hp, hlen, h => by
    simp only [flagsU, Bool.and_eq_true, List.all_eq_true] at hf
    simp only [seqU] at h
    refine seqU_awpT r [] [] past τ σ hf.2 (fun x hx => ?_) hlen h
    rcases hp x hx with ⟨h0, hz, _⟩ | ⟨h0, h1⟩ | h0
    · exact .inr (.inl ⟨h0, fun y hy => hf.1 x.1 hz y hy⟩)
    · exact .inr (.inl ⟨h0, fun y hy => h1 y (by simpa [Tu.effs] using hy)⟩)
    · exact .inr (.inr fun y hy => h0 y (by simpa [Tu.all] using hy))
  | .op i 1 r, ks, zs, past, τ, σ, hf, hp, hlen, h => by
    simp only [seqU] at h
    split at h
    · exact h.elim
    · rename_i o hk
      have hk : ops[i]? = some o := hk
      simp only [flagsU, hk, Bool.and_eq_true, beq_iff_eq] at hf
      have he : effO P o = true := by simpa using hf.1.1
      simp only [Tu.tr, awpT, hk, he, if_true]
      refine stepW_mono (fun v σ' hh => ?_) h
      refine ⟨fun x hx hah o ho => ?_, fun hlv => seqU_awpT r ks zs past _ _ (by simpa using hf.2) ?_ hlv hh.2⟩
      · rcases hp x hx with ⟨h0, hz, h3⟩ | ⟨_, h0⟩ | h0
        · obtain ⟨h1, h2, h4⟩ := h0 o ho
          exact step_same h1 h2 (fun k hk => hh.1 k (h3 o ho k hk)) h4
        · rw [h0 i (by simp [Tu.effs])] at hah; cases hah
        · rw [h0 i (by simp [Tu.all])] at hah; cases hah
      · intro x hx
        rcases hp x hx with ⟨h0, hz, h3⟩ | ⟨_, h0⟩ | h0
        · left
          refine ⟨fun o ho => ?_, hz, h3⟩
          obtain ⟨h1, h2, h4⟩ := h0 o ho
          exact ⟨h1, h2, step_same h1 h2 (fun k hk => hh.1 k (h3 o ho k hk)) h4⟩
        · right; right
          intro y hy; exact h0 y (by simp [Tu.effs, hy])
        · right; right
          intro y hy; exact h0 y (by simp [Tu.all, hy])
  | .op i 3 r, ks, zs, past, τ, σ, hf, hp, hlen, h => by
    simp only [seqU] at h
    split at h
    · exact h.elim
    · rename_i o hk
      have hk : ops[i]? = some o := hk
      simp only [flagsU, hk, Bool.and_eq_true, beq_iff_eq] at hf
      have he : effO P o = true := by simpa using hf.1.1
      simp only [Tu.tr, awpT, hk, he, if_true]
      refine stepW_mono (fun v σ' hh => ?_) h
      obtain ⟨rfl, hh⟩ := hh
      refine ⟨fun x hx hah o ho => ?_, fun hlv => seqU_awpT r ks zs past _ _ (by simpa using hf.2) ?_ hlv hh⟩
      · rcases hp x hx with ⟨h0, h3⟩ | ⟨h0, _⟩ | h0
        · exact (h0 o ho).2.2
        · exact (h0 o ho).2.2
        · rw [h0 i (by simp [Tu.all])] at hah; cases hah
      · intro x hx
        rcases hp x hx with h0 | ⟨h0, h1⟩ | h0
        · exact .inl h0
        · exact .inr (.inl ⟨h0, fun y hy => h1 y (by simpa [Tu.effs] using hy)⟩)
        · exact .inr (.inr fun y hy => h0 y (by simp [Tu.all, hy]))
  | .op i 0 r, ks, zs, past, τ, σ, hf, hp, hlen, h => by
    simp only [seqU] at h
    split at h
    · exact h.elim
    · rename_i o hk
      have hk : ops[i]? = some o := hk
      simp only [flagsU, hk, Bool.and_eq_true, beq_iff_eq] at hf
      have he : effO P o = false := by simpa using hf.1.1
      simp only [Tu.tr, awpT, hk, he, Bool.false_eq_true, if_false]
      obtain ⟨v, hv, hkk⟩ := stepW_det hlen he h
      refine hkk _ fun hlv => seqU_awpT r _ (i :: zs) _ _ _ (by simpa using hf.2) ?_ hlv hv.2
      intro x hx
      rcases List.mem_cons.1 hx with rfl | hx
      · left
        refine ⟨fun o' ho' => ?_, List.mem_cons_self .., fun o' ho' k hkr => ?_⟩
        · dsimp only at ho' ⊢
          rw [hk] at ho'; cases ho'
          exact ⟨hlen, he, hkk _ ⟨rfl, rfl⟩⟩
        · dsimp only at ho' hkr
          rw [hk] at ho'; cases ho'
          exact List.mem_append_left _ hkr
      · rcases hp x hx with ⟨h0, hz, h1⟩ | ⟨h0, h1⟩ | h0
        · exact .inl ⟨h0, List.mem_cons_of_mem _ hz, fun o' ho' k hkr => List.mem_append_right _ (h1 o' ho' k hkr)⟩
        · exact .inr (.inl ⟨h0, fun y hy => h1 y (by simpa [Tu.effs] using hy)⟩)
        · exact .inr (.inr fun y hy => h0 y (by simpa [Tu.all] using hy))
  | .op i 2 r, ks, zs, past, τ, σ, hf, hp, hlen, h => seqU_pure i 2 r ks zs past τ σ (by decide) (by decide) (by decide) (fun past' K' h1 h2 h3 h4 => seqU_awpT r ks zs past' _ σ h1 h2 h3 h4) hf hp hlen (by simpa only [seqU] using h)
  | .op i (n + 4) r, ks, zs, past, τ, σ, hf, hp, hlen, h => seqU_pure i (n + 4) r ks zs past τ σ (by omega) (by omega) (by omega) (fun past' K' h1 h2 h3 h4 => seqU_awpT r ks zs past' _ σ h1 h2 h3 h4) hf hp hlen (by simpa only [seqU] using h)

theorem awp_drawU {id : Nat} {ops : Array Oper} {Q : Exit → Env → AST → Prop} (T : Tu) (ho : (trOk P ops T.tr && flagsU P ops T []) = true) (h : seqU P ops T [] τ σ (Q .normal)) : awp P (.region id ops true) Q τ σ := by
  rw [Bool.and_eq_true] at ho
  exact awp_drawTree _ ho.1 fun hlen => seqU_awpT T [] [] [] τ σ ho.2 (fun x hx => by simp at hx) hlen h

def seqU0 (P : Program) (ops : Array Oper) (o : Option Oper) (r : Tu) (ks : List Nat) (τ : Env) (σ : AST) (K : Env → AST → Prop) : Prop := match o with
  | none => False
  | some o => stepW P ops o τ σ fun v σ' => σ' = σ ∧ seqU P ops r (reads (ev τ) o.op ++ ks) (τ.putO o.dst v) σ' K
def seqU1 (P : Program) (ops : Array Oper) (o : Option Oper) (r : Tu) (ks : List Nat) (τ : Env) (σ : AST) (K : Env → AST → Prop) : Prop := match o with
  | none => False
  | some o => stepW P ops o τ σ fun v σ' => keeps ks σ σ' ∧ seqU P ops r ks (τ.putO o.dst v) σ' K
def seqU2 (P : Program) (ops : Array Oper) (o : Option Oper) (r : Tu) (ks : List Nat) (τ : Env) (σ : AST) (K : Env → AST → Prop) : Prop := match o with
  | none => False
  | some o => stepW P ops o τ σ fun v σ' => σ' = σ ∧ seqU P ops r ks (τ.putO o.dst v) σ' K
variable {ks : List Nat}
theorem seqU_nil : seqU P ops .nil ks τ σ KE = KE τ σ := nr rfl
theorem seqU_1 {i : Nat} {r : Tu} : seqU P ops (.op i 1 r) ks τ σ KE = seqU1 P ops (gop ops i) r ks τ σ KE := by simp only [seqU, seqU1]
theorem seqU_0 {i : Nat} {r : Tu} : seqU P ops (.op i 0 r) ks τ σ KE = seqU0 P ops (gop ops i) r ks τ σ KE := by simp only [seqU, seqU0]
theorem seqU_3 {i : Nat} {r : Tu} : seqU P ops (.op i 3 r) ks τ σ KE = seqU2 P ops (gop ops i) r ks τ σ KE := by simp only [seqU, seqU2]
theorem seqU_2 {i : Nat} {r : Tu} : seqU P ops (.op i 2 r) ks τ σ KE = seqU2 P ops (gop ops i) r ks τ σ KE := by simp only [seqU, seqU2]
theorem seqU_cut {r : Tu} : seqU P ops (.cut r) ks τ σ KE = seqU P ops r [] τ σ KE := by simp only [seqU]
theorem seqU_fork {e : Nat} {a b : Tu} : seqU P ops (.fork e a b) ks τ σ KE = Both (@Later ⟨seqU P ops a ks τ σ KE⟩) (@Later ⟨seqU P ops b ks τ σ KE⟩) := by
  simp only [seqU, Later, eq_iff_iff]
  exact ⟨fun h => ⟨h.1, h.2⟩, fun h => ⟨h.l, h.r⟩⟩
theorem seqU1_some {o : Oper} {r : Tu} : seqU1 P ops (some o) r ks τ σ KE = stepW P ops o τ σ (@Lam ⟨fun v σ' => @Later ⟨keeps ks σ σ' ∧ seqU P ops r ks (τ.putO o.dst v) σ' KE⟩⟩) := nr rfl
theorem seqU0_some {o : Oper} {r : Tu} : seqU0 P ops (some o) r ks τ σ KE = stepW P ops o τ σ (@Lam ⟨fun v σ' => σ' = σ ∧ @Later ⟨seqU P ops r (reads (ev τ) o.op ++ ks) (τ.putO o.dst v) σ' KE⟩⟩) := nr rfl
theorem seqU2_some {o : Oper} {r : Tu} : seqU2 P ops (some o) r ks τ σ KE = stepW P ops o τ σ (@Lam ⟨fun v σ' => σ' = σ ∧ @Later ⟨seqU P ops r ks (τ.putO o.dst v) σ' KE⟩⟩) := nr rfl
attribute [go_sem ↓] seqU_nil seqU_0 seqU_1 seqU_2 seqU_3 seqU_fork seqU_cut seqU0_some seqU1_some seqU2_some
end Go.Aff

/- Layer 10, walked: answers read. -/
-- cuts
namespace Go.Aff.L10
open Go.Proofs Go.Aff Go.Aff.L01 Classical
set_option linter.unusedVariables false
set_option linter.unusedSimpArgs false
set_option maxRecDepth 20000
attribute [local go_sem] push_app app_app length_app cellAt_app cellAt_app0 set_app set_app0 objs_app objs_app0 List.cons_append List.nil_append List.length_cons List.length_nil List.getElem?_cons_zero List.getElem?_cons_succ List.set_cons_zero List.set_cons_succ List.length_map
attribute [-go_sem] cellAt_new
attribute [-simp] List.length_flatMap
attribute [local go_sem] Tryz.underlying3 Tryz.underlying4 Tryz.underlying5 Tryz.underlying9 Tryz.underlying39 Tryz.underlying40 Tryz.underlying43 Tryz.underlying25 Tryz.underlying50 Tryz.underlying76 subPs_0 subAt_0 subSet_0 subPs_1 subAt_1 subSet_1 subPs_2 subAt_2 subSet_2 subPs_3 subAt_3 subSet_3 subPs_4 subAt_4 subSet_4 subPs_5 subAt_5 subSet_5 sizes_sub shapes_sub fits_sub zero_sub zt_sub built_sub Tryz.underlying42 pendPs_0 pendAt_0 pendSet_0 pendPs_1 pendAt_1 pendSet_1 pendPs_2 pendAt_2 pendSet_2 pendPs_3 pendAt_3 pendSet_3 pendPs_4 pendAt_4 pendSet_4 pendPs_5 pendAt_5 pendSet_5 sizes_pend shapes_pend fits_pend zero_pend zt_pend built_pend Tryz.underlying104 repPs_0 repAt_0 repSet_0 repPs_1 repAt_1 repSet_1 repPs_2 repAt_2 repSet_2 repPs_3 repAt_3 repSet_3 repPs_4 repAt_4 repSet_4 repPs_5 repAt_5 repSet_5 repPs_6 repAt_6 repSet_6 repPs_7 repAt_7 repSet_7 repPs_8 repAt_8 repSet_8 repPs_9 repAt_9 repSet_9 sizes_rep shapes_rep fits_rep zero_rep zt_rep built_rep Tryz.underlying45 blobPs_0 blobAt_0 blobSet_0 blobPs_1 blobAt_1 blobSet_1 blobPs_2 blobAt_2 blobSet_2 blobPs_3 blobAt_3 blobSet_3 sizes_blob shapes_blob fits_blob zero_blob zt_blob built_blob Tryz.underlying47 msgPs_0 msgAt_0 msgSet_0 msgPs_1 msgAt_1 msgSet_1 msgPs_2 msgAt_2 msgSet_2 msgPs_3 msgAt_3 msgSet_3 msgPs_4 msgAt_4 msgSet_4 msgPs_5 msgAt_5 msgSet_5 msgPs_6 msgAt_6 msgSet_6 msgPs_7 msgAt_7 msgSet_7 msgPs_8 msgAt_8 msgSet_8 msgPs_9 msgAt_9 msgSet_9 sizes_msg shapes_msg fits_msg zero_msg zt_msg built_msg Tryz.underlying49 at_Ps_0 at_At_0 at_Set_0 at_Ps_1 at_At_1 at_Set_1 sizes_at_ shapes_at_ fits_at_ zero_at_ zt_at_ built_at_ Tryz.underlying62
attribute [local go_sem] fits3 fits4 fits5 fits9 fits23 fits26 fits31 fits34 fits52 zt3 zero3 zt34 zero34 zt23 zero23 bin_sub_eql bin_pend_eql bin_pend_neq bin_blob_eql bin_dig23_eql bin_dig23_neq slice23
attribute [local go_sem ↓] blockQ_exit2
attribute [local simp] dig_ext
attribute [local go_sem] rdrPs_0 rdrAt_0 rdrSet_0 rdrPs_1 rdrAt_1 rdrSet_1 rdrPs_2 rdrAt_2 rdrSet_2 sizes_rdr shapes_rdr fits_rdr zero_rdr zt_rdr built_rdr Tryz.underlying133 Tryz.underlying131 Tryz.underlying136 bin_bool_ne appc appn built23

noncomputable section
def Rdr.pend (r : Rdr) : Pend × Rdr :=
  (⟨r.int.1, r.int.2.int.1, r.int.2.int.2.int.1, r.int.2.int.2.int.2.int.1, r.int.2.int.2.int.2.int.2.dig.1, r.int.2.int.2.int.2.int.2.dig.2.dig.1⟩, r.int.2.int.2.int.2.int.2.dig.2.dig.2)
def Rdr.pends : Nat → Rdr → List Pend × Rdr
  | 0, r => ([], r)
  | k + 1, r => if r.e ≠ 0 then ([], r) else (r.pend.1 :: (Rdr.pends k r.pend.2).1, (Rdr.pends k r.pend.2).2)
/-- An answer's first part, its count, the reader behind it. -/
def Rdr.rep1 (r : Rdr) : Rep × Int × Rdr :=
  let a := r.int; let b := a.2.int; let c := b.2.text; let d := c.2.dig; let n := d.2.int
  ({ rep0 with num := a.1, last := b.1, view := c.1, commit := d.1 }, n.1, if n.2.e = 0 ∧ ¬ In 0 8 n.1 then { n.2 with e := 6 } else n.2)
def Rdr.rep2 (x : Rep) (r : Rdr) : Rep × Rdr :=
  let a := r.int; let b := a.2.text; let c := b.2.dig; let d := c.2.text; let e := d.2.dig
  ({ x with vnum := a.1, value := b.1, data := c.1, seen := d.1, seenTag := e.1 }, e.2)
def Rdr.rep (r : Rdr) : Rep × Rdr :=
  let x := r.rep1; let l := Rdr.pends x.2.1.toNat x.2.2; Rdr.rep2 { x.1 with pending := l.1 } l.2
end
theorem pends_err {k : Nat} {r : Rdr} (h : r.e ≠ 0) : Rdr.pends k r = ([], r) := by cases k <;> simp [Rdr.pends, h]
theorem E26 : ElemT Tryz.prog 43 104 68 96 := ⟨rfl, by kernel_rfl, by kernel_rfl, ⟨_, of_eq_true zt_pend⟩, by decide⟩
theorem size_pends {l : List Pend} : ∀ v ∈ l.map pendV, v.size = 68 := by
  intro v hv; obtain ⟨x, _, rfl⟩ := List.mem_map.1 hv; simp only [AV.size, sizes_pend]
theorem canApp_toks {s s' : AST} {tk : Tk} {n e : Nat} (h : canApp s tk n e) (ht : s'.toks = s.toks) : canApp s' tk n e := by
  cases tk <;> simp_all [canApp]
theorem append_pend {acc : List Pend} {p : Pend} {tk tk2 : Tk} {σ : AST} {K : AV → AST → Prop} (hca : canApp σ tk acc.length 68) (hl : acc.length ≤ 1000) (hK : K (.slice (growT σ tk) ((acc ++ [p]).map pendV)) (growS σ tk (acc.length + 1) 68)) :
    appendW Tryz.prog ⟨[43, 43]⟩ (.slice tk (acc.map pendV)) (.slice tk2 [pendV p]) σ K := by
  refine append_slice E26 rfl (by rw [List.length_map]; exact hca) (size_pends (l := [p])) size_pends (by simp; omega) (by simp [maxL]; omega) ?_
  simpa using hK
theorem RF.growS {σ0 s : AST} {T : List (Nat × Nat)} {j : Nat} {r : Rdr} {F : List (Nat × AObj)} {tk : Tk} {n e : Nat} (h : RF σ0 s T j r F) (ht : tkNew σ0 tk) : RF σ0 (Go.Aff.growS s tk n e) (Go.Aff.growS s tk n e).toks j r F :=
  ⟨h.x.grow ht, rfl, h.jn, by rw [growS_objs]; exact h.o, fun x hx => ⟨(h.f x hx).1, by rw [growS_objs]; exact (h.f x hx).2⟩, h.p, h.l⟩

theorem rans_c {r : Rdr} {T : List (Nat × Nat)} {j : Nat} {F : List (Nat × AObj)} {σ0 σ : AST} {K : AV → AST → Prop} (h : RF σ0 σ T j r F) (hK : ∀ s T' t, RF σ0 s T' j r.rep.2 F → K (repV t r.rep.1) s) : TCalls Tryz.prog 89 [.ptr (some (j, []))] σ K := by
  refine tcalls_walk Tryz.f89 _ [.cell 2 45] Tryz.func89 rfl rfl rfl mixed (Nat.le_of_ble_eq_true rfl) rfl fun hlen => ?_
  simp -dsimp only [↓reduceIte, go_sem]
  have hle := h.le
  have hlt := h.lt
  have h := h.push (o := .cells (repV .full rep0))
  generalize hk : σ.objs.length = k at h hle hlt
  refine int_c h fun s h => ?_
  simp -dsimp only [↓reduceIte, go_sem]
  refine int_c h fun s h => ?_
  simp -dsimp only [↓reduceIte, go_sem]
  refine rtext_c h fun s h => ?_
  simp -dsimp only [↓reduceIte, go_sem]
  refine rdig_c h fun s h => ?_
  repeat' (first | (simp -dsimp only [↓reduceIte, go_sem, hk]) | (refine arr_intro fun _ => ?_) | (refine later_intro ⟨keeps_nil, ?_⟩) | (refine later_intro ⟨keeps_refl, ?_⟩) | (with_reducible refine keeps_go ?_ ?_; focus (first | (simp [keeps_cons, keeps_none, objs_app, objs_app0]; done) | (simp only [keeps_cons, keeps_none, objs_app0, objs_app, and_true]; first | rfl | exact ⟨rfl, rfl⟩ | exact ⟨rfl, rfl, rfl⟩))) | (with_reducible refine (And.intro (a := keeps _ _ _) ?_ ?_); focus (first | (simp [keeps_cons, keeps_none, objs_app, objs_app0]; done) | (simp only [keeps_cons, keeps_none, objs_app0, objs_app, and_true]; first | rfl | exact ⟨rfl, rfl⟩ | exact ⟨rfl, rfl, rfl⟩))) | (refine both_ways ?_ ?_) | (rw [wrap_i64 (by omega) (by omega)]) | (refine guardV_split (fun h => ?_) (fun h => ?_) <;> (try rw [h]) <;> (try simp at h) <;> (try (exfalso; omega))))
  have hle2 := h.le
  have hlt2 := h.lt
  have h := h.push (o := .cells (repV .full ⟨r.int.1, r.int.2.int.1, r.int.2.int.2.text.1, r.int.2.int.2.text.2.dig.1, rep0.pending, rep0.vnum, rep0.value, rep0.data, rep0.seen, rep0.seenTag⟩))
  have hX : r.rep1.1 = ⟨r.int.1, r.int.2.int.1, r.int.2.int.2.text.1, r.int.2.int.2.text.2.dig.1, rep0.pending, rep0.vnum, rep0.value, rep0.data, rep0.seen, rep0.seenTag⟩ := rfl
  rw [← hX] at h
  rw [← hX]
  generalize hk2 : s.objs.length = k2 at h hle2 hlt2
  refine int_c h fun s h => ?_
  have e1 : r.rep1.2.1 = r.int.2.int.2.text.2.dig.2.int.1 := rfl
  have e2 : r.rep1.2.2 = if r.int.2.int.2.text.2.dig.2.int.2.e = 0 ∧ ¬ In 0 8 r.int.2.int.2.text.2.dig.2.int.1 then { r.int.2.int.2.text.2.dig.2.int.2 with e := 6 } else r.int.2.int.2.text.2.dig.2.int.2 := rfl
  rw [← e1] at e2 ⊢
  have hre : r.rep = Rdr.rep2 { r.rep1.1 with pending := (Rdr.pends r.rep1.2.1.toNat r.rep1.2.2).1 } (Rdr.pends r.rep1.2.1.toNat r.rep1.2.2).2 := rfl
  have hX2 : r.rep1.1.pending = [] := rfl
  rw [hre] at hK
  generalize r.rep1.1 = X at *
  generalize r.rep1.2.1 = n at *
  generalize r.int.2.int.2.text.2.dig.2.int.2 = r2 at *
  clear hX e1 hre
  have hR := h
  clear h
  have c := cellAt_known hR.o
  have ho := hR.o
  have hj := (List.getElem?_eq_some_iff.1 hR.o).1
  repeat' (first | (simp -dsimp only [↓reduceIte, go_sem, hk2, c, ho]) | (refine arr_intro fun _ => ?_) | (refine later_intro ⟨keeps_nil, ?_⟩) | (refine later_intro ⟨keeps_refl, ?_⟩) | (with_reducible refine keeps_go ?_ ?_; focus (first | (simp [keeps_cons, keeps_none, objs_app, objs_app0]; done) | (simp only [keeps_cons, keeps_none, objs_app0, objs_app, and_true]; first | rfl | exact ⟨rfl, rfl⟩ | exact ⟨rfl, rfl, rfl⟩))) | (with_reducible refine (And.intro (a := keeps _ _ _) ?_ ?_); focus (first | (simp [keeps_cons, keeps_none, objs_app, objs_app0]; done) | (simp only [keeps_cons, keeps_none, objs_app0, objs_app, and_true]; first | rfl | exact ⟨rfl, rfl⟩ | exact ⟨rfl, rfl, rfl⟩))) | (refine both_ways ?_ ?_) | (rw [wrap_i64 (by omega) (by omega)]) | (refine guardV_split (fun h => ?_) (fun h => ?_) <;> (try rw [h]) <;> (try simp at h) <;> (try (exfalso; omega))) | (refine within_c ?_))
  all_goals
    obtain ⟨r3, h3, h⟩ : ∃ r3, r3 = r.rep1.2.2 ∧ RF σ0 _ T j r3 ((k2, .cells (repV .full X)) :: (k, .cells (repV .full rep0)) :: F) := by
      refine ⟨_, e2.symm, ?_⟩
      first
        | (rw [if_pos ⟨‹_›, ‹_›⟩]; exact hR.err (by decide))
        | (rw [if_neg (fun h => by simp_all)]; exact hR)
  all_goals
    rw [← h3] at e2 hK
    have hn : r3.e = 0 → 0 ≤ n ∧ n ≤ 8 := fun h0 => by
      by_cases hc : r2.e = 0 ∧ ¬ In 0 8 n
      · rw [if_pos hc] at e2; rw [e2] at h0; simp at h0
      · rw [if_neg hc] at e2; rw [e2] at h0; exact Classical.byContradiction fun hin => hc ⟨h0, hin⟩
    clear e2 h3 c ho hj
    have hi0 : (k2, AObj.cells (repV .full X)) = (k2, AObj.cells (repV .full { X with pending := [] })) := by rw [← hX2]
    rw [hi0] at h
    generalize hP : Rdr.pends n.toNat r3 = P at hK
    refine awp_rounds (fun (x : Nat × List Pend × Rdr) τ s => ∃ tk T', RF σ0 s T' j x.2.2 ((k2, .cells (repV tk { X with pending := x.2.1 })) :: (k, .cells (repV .full rep0)) :: F) ∧ tkNew σ0 tk ∧ canApp s tk x.2.1.length 68 ∧ (x.2.2.e = 0 → 0 ≤ n ∧ n ≤ 8) ∧ x.2.1.length ≤ x.1 ∧ x.1 ≤ n.toNat ∧
      x.2.1 ++ (Rdr.pends (n.toNat - x.1) x.2.2).1 = P.1 ∧ (Rdr.pends (n.toNat - x.1) x.2.2).2 = P.2 ∧ τ 0 = .ptr (some (j, [])) ∧ τ 2 = .ptr (some (k, [])) ∧ τ 3 = .ptr (some (k2, [])) ∧ τ 4 = .int .i64 n ∧ τ 5 = .int .i64 x.1) (fun x => n.toNat - x.1) (0, [], r3) ?_ ?_
    · refine ⟨.full, T, h, .inl rfl, trivial, hn, by simp, by simp, ?_, ?_, ?_, ?_, ?_, ?_, ?_⟩ <;> (try simp only [go_sem]) <;> (try rfl) <;> simp [hP]
    · clear h hR
      rintro ⟨i, acc, r'⟩ τ s ⟨tk, T', hR, htk, hca, hn, hal, hi, hP1, hP2, t0, t2, t3, t4, t5⟩
      dsimp only at hR hca hn hal hi hP1 hP2 t5 ⊢
      have c := cellAt_known hR.o
      have h2 := hR.f (k2, _) (List.mem_cons_self ..)
      have c2 := cellAt_known h2.2
      have hT := hR.t
      by_cases hgo : (i : Int) < n ∧ r'.e = 0
      · obtain ⟨hlt0, he⟩ := hgo
        have hn8 := hn he
        have hn2 : ∀ {q : Prop}, q → 0 ≤ n ∧ n ≤ 8 := fun _ => hn8
        repeat' (first | (simp -dsimp only [↓reduceIte, go_sem, t0, t2, t3, t4, t5, c, c2, he]) | (refine arr_intro fun _ => ?_) | (refine later_intro ⟨keeps_nil, ?_⟩) | (refine later_intro ⟨keeps_refl, ?_⟩) | (with_reducible refine keeps_go ?_ ?_; focus (first | (simp [keeps_cons, keeps_none, objs_app, objs_app0]; done) | (simp only [keeps_cons, keeps_none, objs_app0, objs_app, and_true]; first | rfl | exact ⟨rfl, rfl⟩ | exact ⟨rfl, rfl, rfl⟩))) | (with_reducible refine (And.intro (a := keeps _ _ _) ?_ ?_); focus (first | (simp [keeps_cons, keeps_none, objs_app, objs_app0]; done) | (simp only [keeps_cons, keeps_none, objs_app0, objs_app, and_true]; first | rfl | exact ⟨rfl, rfl⟩ | exact ⟨rfl, rfl, rfl⟩))) | (refine both_ways ?_ ?_) | (rw [wrap_i64 (by omega) (by omega)]) | (refine guardV_split (fun h => ?_) (fun h => ?_) <;> (try rw [h]) <;> (try simp at h) <;> (try (exfalso; omega))) | (with_reducible refine awp_drawU (id := 8) (.op 0 0 (.op 1 0 (.op 2 2 (.op 4 0 (.op 6 0 (.op 8 0 (.op 10 0 (.op 12 0 (.op 3 1 (.op 5 1 (.op 7 1 (.op 9 1 (.op 11 1 (.op 13 1 (.cut (.op 14 2 (.op 15 2 (.op 16 1 (.op 17 2 (.op 18 1 .nil)))))))))))))))))))) (by kernel_rfl) ?_))
        refine int_c hR fun s hR => ?_
        have q0 := (hR.f (k2, _) (List.mem_cons_self ..)).2
        repeat' (first | (simp -dsimp only [↓reduceIte, go_sem, t0, t2, t3, t4, t5]) | (refine arr_intro fun _ => ?_) | (refine later_intro ⟨keeps_nil, ?_⟩) | (refine later_intro ⟨keeps_refl, ?_⟩) | (with_reducible refine keeps_go ?_ ?_; focus (first | (simp [keeps_cons, keeps_none, objs_app, objs_app0]; done) | (simp only [keeps_cons, keeps_none, objs_app0, objs_app, and_true]; first | rfl | exact ⟨rfl, rfl⟩ | exact ⟨rfl, rfl, rfl⟩))) | (with_reducible refine (And.intro (a := keeps _ _ _) ?_ ?_); focus (first | (simp [keeps_cons, keeps_none, objs_app, objs_app0]; done) | (simp only [keeps_cons, keeps_none, objs_app0, objs_app, and_true]; first | rfl | exact ⟨rfl, rfl⟩ | exact ⟨rfl, rfl, rfl⟩))) | (refine both_ways ?_ ?_) | (rw [wrap_i64 (by omega) (by omega)]) | (refine guardV_split (fun h => ?_) (fun h => ?_) <;> (try rw [h]) <;> (try simp at h) <;> (try (exfalso; omega))) | (with_reducible refine keeps_go ?_ ?_; focus (simp [keeps_cons, keeps_none, h2.2, q0]; done)))
        refine int_c hR fun s hR => ?_
        have q1 := (hR.f (k2, _) (List.mem_cons_self ..)).2
        repeat' (first | (simp -dsimp only [↓reduceIte, go_sem, t0, t2, t3, t4, t5]) | (refine arr_intro fun _ => ?_) | (refine later_intro ⟨keeps_nil, ?_⟩) | (refine later_intro ⟨keeps_refl, ?_⟩) | (with_reducible refine keeps_go ?_ ?_; focus (first | (simp [keeps_cons, keeps_none, objs_app, objs_app0]; done) | (simp only [keeps_cons, keeps_none, objs_app0, objs_app, and_true]; first | rfl | exact ⟨rfl, rfl⟩ | exact ⟨rfl, rfl, rfl⟩))) | (with_reducible refine (And.intro (a := keeps _ _ _) ?_ ?_); focus (first | (simp [keeps_cons, keeps_none, objs_app, objs_app0]; done) | (simp only [keeps_cons, keeps_none, objs_app0, objs_app, and_true]; first | rfl | exact ⟨rfl, rfl⟩ | exact ⟨rfl, rfl, rfl⟩))) | (refine both_ways ?_ ?_) | (rw [wrap_i64 (by omega) (by omega)]) | (refine guardV_split (fun h => ?_) (fun h => ?_) <;> (try rw [h]) <;> (try simp at h) <;> (try (exfalso; omega))) | (with_reducible refine keeps_go ?_ ?_; focus (simp [keeps_cons, keeps_none, h2.2, q1, q0]; done)))
        refine int_c hR fun s hR => ?_
        have q2 := (hR.f (k2, _) (List.mem_cons_self ..)).2
        repeat' (first | (simp -dsimp only [↓reduceIte, go_sem, t0, t2, t3, t4, t5]) | (refine arr_intro fun _ => ?_) | (refine later_intro ⟨keeps_nil, ?_⟩) | (refine later_intro ⟨keeps_refl, ?_⟩) | (with_reducible refine keeps_go ?_ ?_; focus (first | (simp [keeps_cons, keeps_none, objs_app, objs_app0]; done) | (simp only [keeps_cons, keeps_none, objs_app0, objs_app, and_true]; first | rfl | exact ⟨rfl, rfl⟩ | exact ⟨rfl, rfl, rfl⟩))) | (with_reducible refine (And.intro (a := keeps _ _ _) ?_ ?_); focus (first | (simp [keeps_cons, keeps_none, objs_app, objs_app0]; done) | (simp only [keeps_cons, keeps_none, objs_app0, objs_app, and_true]; first | rfl | exact ⟨rfl, rfl⟩ | exact ⟨rfl, rfl, rfl⟩))) | (refine both_ways ?_ ?_) | (rw [wrap_i64 (by omega) (by omega)]) | (refine guardV_split (fun h => ?_) (fun h => ?_) <;> (try rw [h]) <;> (try simp at h) <;> (try (exfalso; omega))) | (with_reducible refine keeps_go ?_ ?_; focus (simp [keeps_cons, keeps_none, h2.2, q2, q0, q1]; done)))
        refine int_c hR fun s hR => ?_
        have q3 := (hR.f (k2, _) (List.mem_cons_self ..)).2
        repeat' (first | (simp -dsimp only [↓reduceIte, go_sem, t0, t2, t3, t4, t5]) | (refine arr_intro fun _ => ?_) | (refine later_intro ⟨keeps_nil, ?_⟩) | (refine later_intro ⟨keeps_refl, ?_⟩) | (with_reducible refine keeps_go ?_ ?_; focus (first | (simp [keeps_cons, keeps_none, objs_app, objs_app0]; done) | (simp only [keeps_cons, keeps_none, objs_app0, objs_app, and_true]; first | rfl | exact ⟨rfl, rfl⟩ | exact ⟨rfl, rfl, rfl⟩))) | (with_reducible refine (And.intro (a := keeps _ _ _) ?_ ?_); focus (first | (simp [keeps_cons, keeps_none, objs_app, objs_app0]; done) | (simp only [keeps_cons, keeps_none, objs_app0, objs_app, and_true]; first | rfl | exact ⟨rfl, rfl⟩ | exact ⟨rfl, rfl, rfl⟩))) | (refine both_ways ?_ ?_) | (rw [wrap_i64 (by omega) (by omega)]) | (refine guardV_split (fun h => ?_) (fun h => ?_) <;> (try rw [h]) <;> (try simp at h) <;> (try (exfalso; omega))) | (with_reducible refine keeps_go ?_ ?_; focus (simp [keeps_cons, keeps_none, h2.2, q3, q0, q1, q2]; done)))
        refine rdig_c hR fun s hR => ?_
        have q4 := (hR.f (k2, _) (List.mem_cons_self ..)).2
        repeat' (first | (simp -dsimp only [↓reduceIte, go_sem, t0, t2, t3, t4, t5]) | (refine arr_intro fun _ => ?_) | (refine later_intro ⟨keeps_nil, ?_⟩) | (refine later_intro ⟨keeps_refl, ?_⟩) | (with_reducible refine keeps_go ?_ ?_; focus (first | (simp [keeps_cons, keeps_none, objs_app, objs_app0]; done) | (simp only [keeps_cons, keeps_none, objs_app0, objs_app, and_true]; first | rfl | exact ⟨rfl, rfl⟩ | exact ⟨rfl, rfl, rfl⟩))) | (with_reducible refine (And.intro (a := keeps _ _ _) ?_ ?_); focus (first | (simp [keeps_cons, keeps_none, objs_app, objs_app0]; done) | (simp only [keeps_cons, keeps_none, objs_app0, objs_app, and_true]; first | rfl | exact ⟨rfl, rfl⟩ | exact ⟨rfl, rfl, rfl⟩))) | (refine both_ways ?_ ?_) | (rw [wrap_i64 (by omega) (by omega)]) | (refine guardV_split (fun h => ?_) (fun h => ?_) <;> (try rw [h]) <;> (try simp at h) <;> (try (exfalso; omega))) | (with_reducible refine keeps_go ?_ ?_; focus (simp [keeps_cons, keeps_none, h2.2, q4, q0, q1, q2, q3]; done)))
        refine rdig_c hR fun s hR => ?_
        have q5 := (hR.f (k2, _) (List.mem_cons_self ..)).2
        repeat' (first | (simp -dsimp only [↓reduceIte, go_sem, t0, t2, t3, t4, t5]) | (refine arr_intro fun _ => ?_) | (refine later_intro ⟨keeps_nil, ?_⟩) | (refine later_intro ⟨keeps_refl, ?_⟩) | (with_reducible refine keeps_go ?_ ?_; focus (first | (simp [keeps_cons, keeps_none, objs_app, objs_app0]; done) | (simp only [keeps_cons, keeps_none, objs_app0, objs_app, and_true]; first | rfl | exact ⟨rfl, rfl⟩ | exact ⟨rfl, rfl, rfl⟩))) | (with_reducible refine (And.intro (a := keeps _ _ _) ?_ ?_); focus (first | (simp [keeps_cons, keeps_none, objs_app, objs_app0]; done) | (simp only [keeps_cons, keeps_none, objs_app0, objs_app, and_true]; first | rfl | exact ⟨rfl, rfl⟩ | exact ⟨rfl, rfl, rfl⟩))) | (refine both_ways ?_ ?_) | (rw [wrap_i64 (by omega) (by omega)]) | (refine guardV_split (fun h => ?_) (fun h => ?_) <;> (try rw [h]) <;> (try simp at h) <;> (try (exfalso; omega))) | (with_reducible refine keeps_go ?_ ?_; focus (simp [keeps_cons, keeps_none, h2.2, q5, q0, q1, q2, q3, q4]; done)))
        have hca := canApp_toks (s' := s) hca (by rw [hR.t, hT])
        have hr : (⟨r'.int.1, r'.int.2.int.1, r'.int.2.int.2.int.1, r'.int.2.int.2.int.2.int.1, r'.int.2.int.2.int.2.int.2.dig.1, r'.int.2.int.2.int.2.int.2.dig.2.dig.1⟩ : Pend) = r'.pend.1 := rfl
        have hr2 : r'.int.2.int.2.int.2.int.2.dig.2.dig.2 = r'.pend.2 := rfl
        rw [hr]
        rw [hr2] at hR
        have hpd : Rdr.pends (n.toNat - i) r' = (r'.pend.1 :: (Rdr.pends (n.toNat - (i + 1)) r'.pend.2).1, (Rdr.pends (n.toNat - (i + 1)) r'.pend.2).2) := by
          rw [show n.toNat - i = (n.toNat - (i + 1)) + 1 by omega, Rdr.pends, if_neg (by simp [he])]
        rw [hpd] at hP1 hP2
        generalize r'.pend.1 = p at *
        generalize r'.pend.2 = r4 at *
        refine build_slice E26 rfl (by decide) (by intro v hv; simp at hv; subst hv; simp [go_sem]) ?_
        have hgl : ∀ m, k2 < (growS s tk m 68).objs.length := fun m => by rw [growS_objs]; exact (List.getElem?_eq_some_iff.1 q5).1
        have hgo : ∀ m, (growS s tk m 68).objs[k2]? = some (.cells (repV tk { X with pending := acc })) := fun m => by rw [growS_objs]; exact q5
        have hgc := fun m => cellAt_known (hgo m)
        repeat' (first | (simp -dsimp only [↓reduceIte, go_sem, t0, t2, t3, t4, t5, hgo, hgc, cellAt_known q5, q5]) | (refine arr_intro fun _ => ?_) | (refine later_intro ⟨keeps_nil, ?_⟩) | (refine later_intro ⟨keeps_refl, ?_⟩) | (with_reducible refine keeps_go ?_ ?_; focus (first | (simp [keeps_cons, keeps_none, objs_app, objs_app0]; done) | (simp only [keeps_cons, keeps_none, objs_app0, objs_app, and_true]; first | rfl | exact ⟨rfl, rfl⟩ | exact ⟨rfl, rfl, rfl⟩))) | (with_reducible refine (And.intro (a := keeps _ _ _) ?_ ?_); focus (first | (simp [keeps_cons, keeps_none, objs_app, objs_app0]; done) | (simp only [keeps_cons, keeps_none, objs_app0, objs_app, and_true]; first | rfl | exact ⟨rfl, rfl⟩ | exact ⟨rfl, rfl, rfl⟩))) | (refine both_ways ?_ ?_) | (rw [wrap_i64 (by omega) (by omega)]) | (refine guardV_split (fun h => ?_) (fun h => ?_) <;> (try rw [h]) <;> (try simp at h) <;> (try (exfalso; omega))) | (refine append_pend hca (by omega) ?_) | (with_reducible refine keeps_go ?_ ?_; focus (simp [keeps_cons, keeps_none, growS_objs]; done)))
        refine later_intro ⟨(i + 1, acc ++ [p], r4), by dsimp only; omega, growT s tk, _, (hR.growS htk).upd hle2 hlt2, htk.grow hR.x, ?_, hn2, ?_, ?_, ?_, ?_, ?_, ?_, ?_, ?_, ?_⟩ <;> (try simp only [go_sem, t0, t2, t3, t4, t5])
        · rw [canApp_set]; simp only [List.length_append, List.length_cons, List.length_nil]; exact canApp_grow hca
        · simp; omega
        · omega
        · rw [← hP1]; simp
        · exact hP2
        · rfl
      · have hz : Rdr.pends (n.toNat - i) r' = ([], r') := by
          by_cases he : r'.e = 0
          · rw [show n.toNat - i = 0 by omega]; rfl
          · exact pends_err he
        rw [hz] at hP1 hP2
        dsimp only at hP1 hP2
        rw [List.append_nil] at hP1
        subst hP1 hP2
        repeat' (first | (simp -dsimp only [↓reduceIte, go_sem, t0, t2, t3, t4, t5, c]) | (refine arr_intro fun _ => ?_) | (refine later_intro ⟨keeps_nil, ?_⟩) | (refine later_intro ⟨keeps_refl, ?_⟩) | (with_reducible refine keeps_go ?_ ?_; focus (first | (simp [keeps_cons, keeps_none, objs_app, objs_app0]; done) | (simp only [keeps_cons, keeps_none, objs_app0, objs_app, and_true]; first | rfl | exact ⟨rfl, rfl⟩ | exact ⟨rfl, rfl, rfl⟩))) | (with_reducible refine (And.intro (a := keeps _ _ _) ?_ ?_); focus (first | (simp [keeps_cons, keeps_none, objs_app, objs_app0]; done) | (simp only [keeps_cons, keeps_none, objs_app0, objs_app, and_true]; first | rfl | exact ⟨rfl, rfl⟩ | exact ⟨rfl, rfl, rfl⟩))) | (refine both_ways ?_ ?_) | (rw [wrap_i64 (by omega) (by omega)]) | (refine guardV_split (fun h => ?_) (fun h => ?_) <;> (try rw [h]) <;> (try simp at h) <;> (try (exfalso; omega))))
        all_goals
          refine int_c hR fun s hR => ?_
          simp -dsimp only [↓reduceIte, go_sem, t0, t2, t3]
          refine rtext_c hR fun s hR => ?_
          simp -dsimp only [↓reduceIte, go_sem, t0, t2, t3]
          refine rdig_c hR fun s hR => ?_
          have h2 := (hR.f (k2, _) (List.mem_cons_self ..)).2
          have c2 := cellAt_known h2
          have hkl2 := (List.getElem?_eq_some_iff.1 h2).1
          repeat' (first | (simp -dsimp only [↓reduceIte, go_sem, t0, t2, t3, t4, t5, c2, h2, set_set, cellAt_setS, objs_setS, hkl2]) | (refine arr_intro fun _ => ?_) | (refine later_intro ⟨keeps_nil, ?_⟩) | (refine later_intro ⟨keeps_refl, ?_⟩) | (with_reducible refine keeps_go ?_ ?_; focus (first | (simp [keeps_cons, keeps_none, objs_app, objs_app0]; done) | (simp only [keeps_cons, keeps_none, objs_app0, objs_app, and_true]; first | rfl | exact ⟨rfl, rfl⟩ | exact ⟨rfl, rfl, rfl⟩))) | (with_reducible refine (And.intro (a := keeps _ _ _) ?_ ?_); focus (first | (simp [keeps_cons, keeps_none, objs_app, objs_app0]; done) | (simp only [keeps_cons, keeps_none, objs_app0, objs_app, and_true]; first | rfl | exact ⟨rfl, rfl⟩ | exact ⟨rfl, rfl, rfl⟩))) | (refine both_ways ?_ ?_) | (rw [wrap_i64 (by omega) (by omega)]) | (refine guardV_split (fun h => ?_) (fun h => ?_) <;> (try rw [h]) <;> (try simp at h) <;> (try (exfalso; omega))))
        all_goals
          have hR := hR.upd (o' := .cells (repV tk ⟨X.num, X.last, X.view, X.commit, P.1, P.2.int.1, P.2.int.2.text.1, P.2.int.2.text.2.dig.1, X.seen, X.seenTag⟩)) hle2 hlt2
          refine rtext_c hR fun s hR => ?_
          simp -dsimp only [↓reduceIte, go_sem, t0, t2, t3]
          refine rdig_c hR fun s hR => ?_
          have h2 := hR.f (k2, _) (List.mem_cons_self ..)
          have h1 := hR.f (k, .cells (repV .full rep0)) (by simp)
          dsimp only at h1 h2
          have c2 := cellAt_known h2.2
          have hkl2 := (List.getElem?_eq_some_iff.1 h2.2).1
          have hkl := (List.getElem?_eq_some_iff.1 h1.2).1
          have hkk : k2 ≠ k := fun e => hlt2 (k, .cells (repV .full rep0)) (by simp) e.symm
          repeat' (first | (simp -dsimp only [↓reduceIte, go_sem, t0, t2, t3, t4, t5, c2, h2.2, h1.2, set_set, cellAt_setS, objs_setS, objs_setN, length_set, hkl2, hkl, hkk]) | (refine arr_intro fun _ => ?_) | (refine later_intro ⟨keeps_nil, ?_⟩) | (refine later_intro ⟨keeps_refl, ?_⟩) | (with_reducible refine keeps_go ?_ ?_; focus (first | (simp [keeps_cons, keeps_none, objs_app, objs_app0]; done) | (simp only [keeps_cons, keeps_none, objs_app0, objs_app, and_true]; first | rfl | exact ⟨rfl, rfl⟩ | exact ⟨rfl, rfl, rfl⟩))) | (with_reducible refine (And.intro (a := keeps _ _ _) ?_ ?_); focus (first | (simp [keeps_cons, keeps_none, objs_app, objs_app0]; done) | (simp only [keeps_cons, keeps_none, objs_app0, objs_app, and_true]; first | rfl | exact ⟨rfl, rfl⟩ | exact ⟨rfl, rfl, rfl⟩))) | (refine both_ways ?_ ?_) | (rw [wrap_i64 (by omega) (by omega)]) | (refine guardV_split (fun h => ?_) (fun h => ?_) <;> (try rw [h]) <;> (try simp at h) <;> (try (exfalso; omega))))
          have hR := hR.upd (o' := .cells (repV tk ⟨X.num, X.last, X.view, X.commit, P.1, P.2.int.1, P.2.int.2.text.1, P.2.int.2.text.2.dig.1, P.2.int.2.text.2.dig.2.text.1, P.2.int.2.text.2.dig.2.text.2.dig.1⟩)) hle2 hlt2
          exact hK _ _ tk ((hR.mono (G := F) (by simp +contextual)).setO hle h1.1 hlt)

theorem msgSet_9s {m : Msg} {t u v : Tk} {l : List Int} : (msgPs t u m).set 9 (.slice v (l.map (AV.int .i64))) = msgPs t v { m with nums := l } := rfl
theorem slV_eq {l : List Int} : slV (AV.int .i64) l = .slice (L01.tk' l) (l.map (AV.int .i64)) := rfl
attribute [local go_sem] msgSet_9s slV_eq
noncomputable def Rdr.fields (r : Rdr) (m : Msg) : Msg × Rdr :=
  if m.kind = 1 then ((⟨m.kind, m.client, ⟨r.int.1, r.int.2.int.1, r.int.2.int.2.int.1, r.int.2.int.2.int.2.text.1, r.int.2.int.2.int.2.text.2.dig.1, r.int.2.int.2.int.2.text.2.dig.2.dig.1⟩, m.rep, m.view, m.by_, m.tag, m.own, m.blob, m.nums⟩ : Msg), r.int.2.int.2.int.2.text.2.dig.2.dig.2)
  else if m.kind = 2 then ((⟨m.kind, m.client, m.sub, r.rep.1, m.view, m.by_, m.tag, m.own, m.blob, m.nums⟩ : Msg), r.rep.2)
  else if m.kind = 3 then ((⟨m.kind, m.client, m.sub, m.rep, r.text.1, m.by_, r.text.2.dig.1, m.own, m.blob, m.nums⟩ : Msg), r.text.2.dig.2)
  else if m.kind = 4 ∨ m.kind = 6 then ((⟨m.kind, m.client, m.sub, m.rep, m.view, m.by_, m.tag, m.own, ⟨r.int.1, r.int.2.int.1, r.int.2.int.2.text.1, r.int.2.int.2.text.2.dig.1⟩, m.nums⟩ : Msg), r.int.2.int.2.text.2.dig.2)
  else if m.kind = 5 ∨ m.kind = 7 ∨ m.kind = 8 then ((⟨m.kind, m.client, m.sub, m.rep, m.view, m.by_, m.tag, m.own, m.blob, r.ints.1⟩ : Msg), r.ints.2)
  else if m.kind = 10 then ((⟨m.kind, m.client, m.sub, m.rep, r.int.2.text.1, r.int.1, r.int.2.text.2.dig.1, r.int.2.text.2.dig.2.dig.1, m.blob, m.nums⟩ : Msg), r.int.2.text.2.dig.2.dig.2)
  else if m.kind = 11 then ((⟨m.kind, m.client, m.sub, m.rep, m.view, m.by_, m.tag, r.dig.1, m.blob, m.nums⟩ : Msg), r.dig.2)
  else (m, r)
theorem kinds_all (n : Int) : n = 1 ∨ n = 2 ∨ n = 3 ∨ n = 4 ∨ n = 6 ∨ n = 5 ∨ n = 7 ∨ n = 8 ∨ n = 10 ∨ n = 11 ∨ (¬ n = 1 ∧ ¬ n = 2 ∧ ¬ n = 3 ∧ ¬ n = 4 ∧ ¬ n = 6 ∧ ¬ n = 5 ∧ ¬ n = 7 ∧ ¬ n = 8 ∧ ¬ n = 10 ∧ ¬ n = 11) := by omega
theorem rfields_c {r : Rdr} {m : Msg} {t u : Tk} {T : List (Nat × Nat)} {j k : Nat} {F : List (Nat × AObj)} {σ0 σ : AST} {K : AV → AST → Prop} (hR : RF σ0 σ T j r ((k, .cells (msgV t u m)) :: F)) (hk : σ0.objs.length ≤ k) (hF : ∀ x ∈ F, x.1 ≠ k)
    (hK : ∀ s T' t' u', RF σ0 s T' j (r.fields m).2 ((k, .cells (msgV t' u' (r.fields m).1)) :: F) → K (.tuple []) s) : TCalls Tryz.prog 69 [.ptr (some (j, [])), .ptr (some (k, []))] σ K := by
  refine tcalls_walk Tryz.f69 _ [] Tryz.func69 rfl rfl rfl mixed (Nat.le_of_ble_eq_true rfl) rfl fun hlen => ?_
  have h0 := hR.f (k, _) (List.mem_cons_self ..)
  have c0 := cellAt_known h0.2
  simp -dsimp only [↓reduceIte, go_sem, c0]
  rcases kinds_all m.kind with hq | hq | hq | hq | hq | hq | hq | hq | hq | hq | hq
  · have e : r.fields m = ((⟨m.kind, m.client, ⟨r.int.1, r.int.2.int.1, r.int.2.int.2.int.1, r.int.2.int.2.int.2.text.1, r.int.2.int.2.int.2.text.2.dig.1, r.int.2.int.2.int.2.text.2.dig.2.dig.1⟩, m.rep, m.view, m.by_, m.tag, m.own, m.blob, m.nums⟩ : Msg), r.int.2.int.2.int.2.text.2.dig.2.dig.2) := by simp [Rdr.fields, hq]
    rw [e, hq] at hK
    simp -dsimp only [↓reduceIte, go_sem, hq]
    refine int_c hR fun s hR => ?_
    simp -dsimp only [↓reduceIte, go_sem, hq]
    refine int_c hR fun s hR => ?_
    simp -dsimp only [↓reduceIte, go_sem, hq]
    refine int_c hR fun s hR => ?_
    simp -dsimp only [↓reduceIte, go_sem, hq]
    refine rtext_c hR fun s hR => ?_
    simp -dsimp only [↓reduceIte, go_sem, hq]
    refine rdig_c hR fun s hR => ?_
    simp -dsimp only [↓reduceIte, go_sem, hq]
    refine rdig_c hR fun s hR => ?_
    have h2 := hR.f (k, _) (List.mem_cons_self ..)
    have c2 := cellAt_known h2.2
    have hkl := (List.getElem?_eq_some_iff.1 h2.2).1
    repeat' (first | (simp -dsimp only [↓reduceIte, go_sem, hq, c2, h2.2, set_set, cellAt_setS, objs_setS, hkl]) | (refine arr_intro fun _ => ?_) | (rw [wrap_i64 (by omega) (by omega)]) | (refine guardV_split (fun h => ?_) (fun h => ?_) <;> (try rw [h]) <;> (try simp at h) <;> (try (exfalso; omega))))
    exact hK _ T t u (hR.upd hk hF)
  · have e : r.fields m = ((⟨m.kind, m.client, m.sub, r.rep.1, m.view, m.by_, m.tag, m.own, m.blob, m.nums⟩ : Msg), r.rep.2) := by simp [Rdr.fields, hq]
    rw [e, hq] at hK
    simp -dsimp only [↓reduceIte, go_sem, hq]
    refine rans_c hR fun s T' t' hR => ?_
    have h2 := hR.f (k, _) (List.mem_cons_self ..)
    have c2 := cellAt_known h2.2
    have hkl := (List.getElem?_eq_some_iff.1 h2.2).1
    repeat' (first | (simp -dsimp only [↓reduceIte, go_sem, hq, c2, h2.2, set_set, cellAt_setS, objs_setS, hkl]) | (refine arr_intro fun _ => ?_) | (rw [wrap_i64 (by omega) (by omega)]) | (refine guardV_split (fun h => ?_) (fun h => ?_) <;> (try rw [h]) <;> (try simp at h) <;> (try (exfalso; omega))))
    exact hK _ T' t' u (hR.upd hk hF)
  · have e : r.fields m = ((⟨m.kind, m.client, m.sub, m.rep, r.text.1, m.by_, r.text.2.dig.1, m.own, m.blob, m.nums⟩ : Msg), r.text.2.dig.2) := by simp [Rdr.fields, hq]
    rw [e, hq] at hK
    simp -dsimp only [↓reduceIte, go_sem, hq]
    refine rtext_c hR fun s hR => ?_
    simp -dsimp only [↓reduceIte, go_sem, hq]
    refine rdig_c hR fun s hR => ?_
    have h2 := hR.f (k, _) (List.mem_cons_self ..)
    have c2 := cellAt_known h2.2
    have hkl := (List.getElem?_eq_some_iff.1 h2.2).1
    repeat' (first | (simp -dsimp only [↓reduceIte, go_sem, hq, c2, h2.2, set_set, cellAt_setS, objs_setS, hkl]) | (refine arr_intro fun _ => ?_) | (rw [wrap_i64 (by omega) (by omega)]) | (refine guardV_split (fun h => ?_) (fun h => ?_) <;> (try rw [h]) <;> (try simp at h) <;> (try (exfalso; omega))))
    exact hK _ T t u (hR.upd hk hF)
  · have e : r.fields m = ((⟨m.kind, m.client, m.sub, m.rep, m.view, m.by_, m.tag, m.own, ⟨r.int.1, r.int.2.int.1, r.int.2.int.2.text.1, r.int.2.int.2.text.2.dig.1⟩, m.nums⟩ : Msg), r.int.2.int.2.text.2.dig.2) := by simp [Rdr.fields, hq]
    rw [e, hq] at hK
    simp -dsimp only [↓reduceIte, go_sem, hq]
    refine int_c hR fun s hR => ?_
    simp -dsimp only [↓reduceIte, go_sem, hq]
    refine int_c hR fun s hR => ?_
    simp -dsimp only [↓reduceIte, go_sem, hq]
    refine rtext_c hR fun s hR => ?_
    simp -dsimp only [↓reduceIte, go_sem, hq]
    refine rdig_c hR fun s hR => ?_
    have h2 := hR.f (k, _) (List.mem_cons_self ..)
    have c2 := cellAt_known h2.2
    have hkl := (List.getElem?_eq_some_iff.1 h2.2).1
    repeat' (first | (simp -dsimp only [↓reduceIte, go_sem, hq, c2, h2.2, set_set, cellAt_setS, objs_setS, hkl]) | (refine arr_intro fun _ => ?_) | (rw [wrap_i64 (by omega) (by omega)]) | (refine guardV_split (fun h => ?_) (fun h => ?_) <;> (try rw [h]) <;> (try simp at h) <;> (try (exfalso; omega))))
    exact hK _ T t u (hR.upd hk hF)
  · have e : r.fields m = ((⟨m.kind, m.client, m.sub, m.rep, m.view, m.by_, m.tag, m.own, ⟨r.int.1, r.int.2.int.1, r.int.2.int.2.text.1, r.int.2.int.2.text.2.dig.1⟩, m.nums⟩ : Msg), r.int.2.int.2.text.2.dig.2) := by simp [Rdr.fields, hq]
    rw [e, hq] at hK
    simp -dsimp only [↓reduceIte, go_sem, hq]
    refine int_c hR fun s hR => ?_
    simp -dsimp only [↓reduceIte, go_sem, hq]
    refine int_c hR fun s hR => ?_
    simp -dsimp only [↓reduceIte, go_sem, hq]
    refine rtext_c hR fun s hR => ?_
    simp -dsimp only [↓reduceIte, go_sem, hq]
    refine rdig_c hR fun s hR => ?_
    have h2 := hR.f (k, _) (List.mem_cons_self ..)
    have c2 := cellAt_known h2.2
    have hkl := (List.getElem?_eq_some_iff.1 h2.2).1
    repeat' (first | (simp -dsimp only [↓reduceIte, go_sem, hq, c2, h2.2, set_set, cellAt_setS, objs_setS, hkl]) | (refine arr_intro fun _ => ?_) | (rw [wrap_i64 (by omega) (by omega)]) | (refine guardV_split (fun h => ?_) (fun h => ?_) <;> (try rw [h]) <;> (try simp at h) <;> (try (exfalso; omega))))
    exact hK _ T t u (hR.upd hk hF)
  · have e : r.fields m = ((⟨m.kind, m.client, m.sub, m.rep, m.view, m.by_, m.tag, m.own, m.blob, r.ints.1⟩ : Msg), r.ints.2) := by simp [Rdr.fields, hq]
    rw [e, hq] at hK
    simp -dsimp only [↓reduceIte, go_sem, hq]
    refine withInts_c hR fun s hR => ?_
    have h2 := hR.f (k, _) (List.mem_cons_self ..)
    have c2 := cellAt_known h2.2
    have hkl := (List.getElem?_eq_some_iff.1 h2.2).1
    repeat' (first | (simp -dsimp only [↓reduceIte, go_sem, hq, c2, h2.2, set_set, cellAt_setS, objs_setS, hkl]) | (refine arr_intro fun _ => ?_) | (rw [wrap_i64 (by omega) (by omega)]) | (refine guardV_split (fun h => ?_) (fun h => ?_) <;> (try rw [h]) <;> (try simp at h) <;> (try (exfalso; omega))))
    exact hK _ T t (L01.tk' r.ints.1) (hR.upd hk hF)
  · have e : r.fields m = ((⟨m.kind, m.client, m.sub, m.rep, m.view, m.by_, m.tag, m.own, m.blob, r.ints.1⟩ : Msg), r.ints.2) := by simp [Rdr.fields, hq]
    rw [e, hq] at hK
    simp -dsimp only [↓reduceIte, go_sem, hq]
    refine withInts_c hR fun s hR => ?_
    have h2 := hR.f (k, _) (List.mem_cons_self ..)
    have c2 := cellAt_known h2.2
    have hkl := (List.getElem?_eq_some_iff.1 h2.2).1
    repeat' (first | (simp -dsimp only [↓reduceIte, go_sem, hq, c2, h2.2, set_set, cellAt_setS, objs_setS, hkl]) | (refine arr_intro fun _ => ?_) | (rw [wrap_i64 (by omega) (by omega)]) | (refine guardV_split (fun h => ?_) (fun h => ?_) <;> (try rw [h]) <;> (try simp at h) <;> (try (exfalso; omega))))
    exact hK _ T t (L01.tk' r.ints.1) (hR.upd hk hF)
  · have e : r.fields m = ((⟨m.kind, m.client, m.sub, m.rep, m.view, m.by_, m.tag, m.own, m.blob, r.ints.1⟩ : Msg), r.ints.2) := by simp [Rdr.fields, hq]
    rw [e, hq] at hK
    simp -dsimp only [↓reduceIte, go_sem, hq]
    refine withInts_c hR fun s hR => ?_
    have h2 := hR.f (k, _) (List.mem_cons_self ..)
    have c2 := cellAt_known h2.2
    have hkl := (List.getElem?_eq_some_iff.1 h2.2).1
    repeat' (first | (simp -dsimp only [↓reduceIte, go_sem, hq, c2, h2.2, set_set, cellAt_setS, objs_setS, hkl]) | (refine arr_intro fun _ => ?_) | (rw [wrap_i64 (by omega) (by omega)]) | (refine guardV_split (fun h => ?_) (fun h => ?_) <;> (try rw [h]) <;> (try simp at h) <;> (try (exfalso; omega))))
    exact hK _ T t (L01.tk' r.ints.1) (hR.upd hk hF)
  · have e : r.fields m = ((⟨m.kind, m.client, m.sub, m.rep, r.int.2.text.1, r.int.1, r.int.2.text.2.dig.1, r.int.2.text.2.dig.2.dig.1, m.blob, m.nums⟩ : Msg), r.int.2.text.2.dig.2.dig.2) := by simp [Rdr.fields, hq]
    rw [e, hq] at hK
    simp -dsimp only [↓reduceIte, go_sem, hq]
    refine int_c hR fun s hR => ?_
    simp -dsimp only [↓reduceIte, go_sem, hq]
    refine rtext_c hR fun s hR => ?_
    have h2 := hR.f (k, _) (List.mem_cons_self ..)
    have c2 := cellAt_known h2.2
    have hkl := (List.getElem?_eq_some_iff.1 h2.2).1
    repeat' (first | (simp -dsimp only [↓reduceIte, go_sem, hq, c2, h2.2, set_set, cellAt_setS, objs_setS, hkl]) | (refine arr_intro fun _ => ?_) | (rw [wrap_i64 (by omega) (by omega)]) | (refine guardV_split (fun h => ?_) (fun h => ?_) <;> (try rw [h]) <;> (try simp at h) <;> (try (exfalso; omega))))
    have hR := hR.upd (o' := .cells (msgV t u ⟨10, m.client, m.sub, m.rep, r.int.2.text.1, r.int.1, m.tag, m.own, m.blob, m.nums⟩)) hk hF
    refine rdig_c hR fun s hR => ?_
    simp -dsimp only [↓reduceIte, go_sem, hq]
    refine rdig_c hR fun s hR => ?_
    have h2 := hR.f (k, _) (List.mem_cons_self ..)
    have c2 := cellAt_known h2.2
    have hkl := (List.getElem?_eq_some_iff.1 h2.2).1
    repeat' (first | (simp -dsimp only [↓reduceIte, go_sem, hq, c2, h2.2, set_set, cellAt_setS, objs_setS, hkl]) | (refine arr_intro fun _ => ?_) | (rw [wrap_i64 (by omega) (by omega)]) | (refine guardV_split (fun h => ?_) (fun h => ?_) <;> (try rw [h]) <;> (try simp at h) <;> (try (exfalso; omega))))
    exact hK _ T t u (hR.upd hk hF)
  · have e : r.fields m = ((⟨m.kind, m.client, m.sub, m.rep, m.view, m.by_, m.tag, r.dig.1, m.blob, m.nums⟩ : Msg), r.dig.2) := by simp [Rdr.fields, hq]
    rw [e, hq] at hK
    simp -dsimp only [↓reduceIte, go_sem, hq]
    refine rdig_c hR fun s hR => ?_
    have h2 := hR.f (k, _) (List.mem_cons_self ..)
    have c2 := cellAt_known h2.2
    have hkl := (List.getElem?_eq_some_iff.1 h2.2).1
    repeat' (first | (simp -dsimp only [↓reduceIte, go_sem, hq, c2, h2.2, set_set, cellAt_setS, objs_setS, hkl]) | (refine arr_intro fun _ => ?_) | (rw [wrap_i64 (by omega) (by omega)]) | (refine guardV_split (fun h => ?_) (fun h => ?_) <;> (try rw [h]) <;> (try simp at h) <;> (try (exfalso; omega))))
    exact hK _ T t u (hR.upd hk hF)
  · have e : r.fields m = (m, r) := by simp [Rdr.fields, hq]
    rw [e] at hK
    repeat' (first | (simp -dsimp only [↓reduceIte, go_sem, hq, c0]) | (refine arr_intro fun _ => ?_) | (rw [wrap_i64 (by omega) (by omega)]) | (refine guardV_split (fun h => ?_) (fun h => ?_) <;> (try rw [h]) <;> (try simp at h) <;> (try (exfalso; omega))))
    exact hK _ T t u hR
end Go.Aff.L10

/- Layer 10, walked: Get. -/
-- cuts
namespace Go.Aff.L10
open Go.Proofs Go.Aff Go.Aff.L01 Classical
set_option linter.unusedVariables false
set_option linter.unusedSimpArgs false
set_option maxRecDepth 20000
attribute [local go_sem] push_app app_app length_app cellAt_app cellAt_app0 set_app set_app0 objs_app objs_app0 List.cons_append List.nil_append List.length_cons List.length_nil List.getElem?_cons_zero List.getElem?_cons_succ List.set_cons_zero List.set_cons_succ List.length_map
attribute [-go_sem] cellAt_new
attribute [-simp] List.length_flatMap
attribute [local go_sem] Tryz.underlying3 Tryz.underlying4 Tryz.underlying5 Tryz.underlying9 Tryz.underlying39 Tryz.underlying40 Tryz.underlying43 Tryz.underlying25 Tryz.underlying50 Tryz.underlying76 subPs_0 subAt_0 subSet_0 subPs_1 subAt_1 subSet_1 subPs_2 subAt_2 subSet_2 subPs_3 subAt_3 subSet_3 subPs_4 subAt_4 subSet_4 subPs_5 subAt_5 subSet_5 sizes_sub shapes_sub fits_sub zero_sub zt_sub built_sub Tryz.underlying42 pendPs_0 pendAt_0 pendSet_0 pendPs_1 pendAt_1 pendSet_1 pendPs_2 pendAt_2 pendSet_2 pendPs_3 pendAt_3 pendSet_3 pendPs_4 pendAt_4 pendSet_4 pendPs_5 pendAt_5 pendSet_5 sizes_pend shapes_pend fits_pend zero_pend zt_pend built_pend Tryz.underlying104 repPs_0 repAt_0 repSet_0 repPs_1 repAt_1 repSet_1 repPs_2 repAt_2 repSet_2 repPs_3 repAt_3 repSet_3 repPs_4 repAt_4 repSet_4 repPs_5 repAt_5 repSet_5 repPs_6 repAt_6 repSet_6 repPs_7 repAt_7 repSet_7 repPs_8 repAt_8 repSet_8 repPs_9 repAt_9 repSet_9 sizes_rep shapes_rep fits_rep zero_rep zt_rep built_rep Tryz.underlying45 blobPs_0 blobAt_0 blobSet_0 blobPs_1 blobAt_1 blobSet_1 blobPs_2 blobAt_2 blobSet_2 blobPs_3 blobAt_3 blobSet_3 sizes_blob shapes_blob fits_blob zero_blob zt_blob built_blob Tryz.underlying47 msgPs_0 msgAt_0 msgSet_0 msgPs_1 msgAt_1 msgSet_1 msgPs_2 msgAt_2 msgSet_2 msgPs_3 msgAt_3 msgSet_3 msgPs_4 msgAt_4 msgSet_4 msgPs_5 msgAt_5 msgSet_5 msgPs_6 msgAt_6 msgSet_6 msgPs_7 msgAt_7 msgSet_7 msgPs_8 msgAt_8 msgSet_8 msgPs_9 msgAt_9 msgSet_9 sizes_msg shapes_msg fits_msg zero_msg zt_msg built_msg Tryz.underlying49 at_Ps_0 at_At_0 at_Set_0 at_Ps_1 at_At_1 at_Set_1 sizes_at_ shapes_at_ fits_at_ zero_at_ zt_at_ built_at_ Tryz.underlying62
attribute [local go_sem] fits3 fits4 fits5 fits9 fits23 fits26 fits31 fits34 fits52 zt3 zero3 zt34 zero34 zt23 zero23 bin_sub_eql bin_pend_eql bin_pend_neq bin_blob_eql bin_dig23_eql bin_dig23_neq slice23
attribute [local go_sem ↓] blockQ_exit2
attribute [local simp] dig_ext
attribute [local go_sem] rdrPs_0 rdrAt_0 rdrSet_0 rdrPs_1 rdrAt_1 rdrSet_1 rdrPs_2 rdrAt_2 rdrSet_2 sizes_rdr shapes_rdr fits_rdr zero_rdr zt_rdr built_rdr Tryz.underlying133 Tryz.underlying131 Tryz.underlying136 bin_bool_ne appc appn built23
attribute [local go_sem] msgSet_9s slV_eq
noncomputable section
def getA (s : List UInt8) : Int × Rdr := let a := (Rdr.mk s 0 0).int; (a.1, if a.2.e = 0 ∧ ¬ In 1 11 a.1 then { a.2 with e := 6 } else a.2)
def getB (x : Int × Rdr) : Int × Rdr := if x.1 = 2 ∨ x.1 = 4 ∨ x.1 = 6 then (0, x.2) else x.2.int
def getM (n c : Int) : Msg := ⟨n, c, sub0, rep0, [], 0, dig0, dig0, blob0, []⟩
def getC (s : List UInt8) : Msg × Rdr := (getB (getA s)).2.fields (getM (getA s).1 (getB (getA s)).1)
def getR (s : List UInt8) : Msg × Int :=
  if (getC s).2.e ≠ 0 then (msg0, (getC s).2.e) else if (getC s).2.at_ < s.length ∨ ¬ (getC s).1.Ok then (msg0, 6) else ((getC s).1, 0)
end
theorem get_c {l : List UInt8} {σ : AST} {K : AV → AST → Prop} (hK : ∀ t u, K (.tuple [msgV t u (getR l).1, .int .i64 (getR l).2]) σ) : TCalls Tryz.prog 43 [.str l] σ K := by
  refine TCalls.drop ?_
  refine tcalls_walk Tryz.f43 _ [.cell 2 49, .tmp 3] Tryz.func43 rfl rfl rfl mixed (Nat.le_of_ble_eq_true rfl) rfl fun hlen => ?_
  have hll : l.length ≤ 9223372036854775807 := hlen (.str l) (by simp)
  simp -dsimp only [↓reduceIte, go_sem]
  generalize hk0 : σ.objs.length = k0
  have hR : RF σ (σ.app [.cells (msgV .full .full msg0), .cells (rdrV ⟨l, 0, 0⟩)]) σ.toks (k0 + 1) ⟨l, 0, 0⟩ [(k0, .cells (msgV .full .full msg0))] := by
    refine ⟨Ext.app _ _, rfl, by omega, ?_, ?_, fun _ => ⟨by simp, by simp⟩, hll⟩
    · subst hk0; simp [AST.app]
    · subst hk0; simp [AST.app]
  generalize hj : k0 + 1 = j at hR
  refine int_c hR fun s hR => ?_
  repeat' (first | (simp -dsimp only [↓reduceIte, go_sem, hj]) | (refine arr_intro fun _ => ?_) | (refine later_intro ⟨keeps_nil, ?_⟩) | (refine later_intro ⟨keeps_refl, ?_⟩) | (with_reducible refine keeps_go ?_ ?_; focus (first | (simp [keeps_cons, keeps_none, objs_app, objs_app0]; done) | (simp only [keeps_cons, keeps_none, objs_app0, objs_app, and_true]; first | rfl | exact ⟨rfl, rfl⟩ | exact ⟨rfl, rfl, rfl⟩))) | (with_reducible refine (And.intro (a := keeps _ _ _) ?_ ?_); focus (first | (simp [keeps_cons, keeps_none, objs_app, objs_app0]; done) | (simp only [keeps_cons, keeps_none, objs_app0, objs_app, and_true]; first | rfl | exact ⟨rfl, rfl⟩ | exact ⟨rfl, rfl, rfl⟩))) | (refine both_ways ?_ ?_) | (rw [wrap_i64 (by omega) (by omega)]) | (refine guardV_split (fun h => ?_) (fun h => ?_) <;> (try rw [h]) <;> (try simp at h) <;> (try (exfalso; omega))))
  have hR := hR.push (o := .cells (msgV .full .full ⟨(Rdr.mk l 0 0).int.1, msg0.client, msg0.sub, msg0.rep, msg0.view, msg0.by_, msg0.tag, msg0.own, msg0.blob, msg0.nums⟩))
  have hA1 : (getA l).1 = (Rdr.mk l 0 0).int.1 := rfl
  have hA2 : (getA l).2 = if (Rdr.mk l 0 0).int.2.e = 0 ∧ ¬ In 1 11 (Rdr.mk l 0 0).int.1 then { (Rdr.mk l 0 0).int.2 with e := 6 } else (Rdr.mk l 0 0).int.2 := rfl
  generalize (Rdr.mk l 0 0).int = A at *
  have hle1 := hR.le
  have hF := hR.lt
  have hF1 : ∀ x ∈ [(k0, AObj.cells (msgV .full .full msg0))], x.1 ≠ s.objs.length := by
    intro x hx
    have := (List.getElem?_eq_some_iff.1 (hR.f x (List.mem_cons_of_mem _ hx)).2).1
    have h3 := ‹RF σ s σ.toks j A.2 [(k0, AObj.cells (msgV .full .full msg0))]›.lt x hx
    exact h3
  have hle1 : σ.objs.length ≤ s.objs.length := ‹RF σ s σ.toks j A.2 [(k0, AObj.cells (msgV .full .full msg0))]›.le
  generalize hk1 : s.objs.length = k1 at hR hF1 hle1
  clear hF
  have c := cellAt_known hR.o
  have ho := hR.o
  have h2 := hR.f (k1, _) (List.mem_cons_self ..)
  have c2 := cellAt_known h2.2
  have nj := h2.1.symm
  dsimp only at nj
  repeat' (first | (simp -dsimp only [↓reduceIte, go_sem, hk1, c, ho, c2, cellAt_setN, nj]) | (refine arr_intro fun _ => ?_) | (refine later_intro ⟨keeps_nil, ?_⟩) | (refine later_intro ⟨keeps_refl, ?_⟩) | (with_reducible refine keeps_go ?_ ?_; focus (first | (simp [keeps_cons, keeps_none, objs_app, objs_app0]; done) | (simp only [keeps_cons, keeps_none, objs_app0, objs_app, and_true]; first | rfl | exact ⟨rfl, rfl⟩ | exact ⟨rfl, rfl, rfl⟩))) | (with_reducible refine (And.intro (a := keeps _ _ _) ?_ ?_); focus (first | (simp [keeps_cons, keeps_none, objs_app, objs_app0]; done) | (simp only [keeps_cons, keeps_none, objs_app0, objs_app, and_true]; first | rfl | exact ⟨rfl, rfl⟩ | exact ⟨rfl, rfl, rfl⟩))) | (refine both_ways ?_ ?_) | (rw [wrap_i64 (by omega) (by omega)]) | (refine guardV_split (fun h => ?_) (fun h => ?_) <;> (try rw [h]) <;> (try simp at h) <;> (try (exfalso; omega))) | (refine within_c ?_))
  all_goals
    obtain ⟨r1, h1, hR⟩ : ∃ r1, r1 = (getA l).2 ∧ RF σ _ σ.toks j r1 [(k1, .cells (msgV .full .full (getM A.1 0))), (k0, .cells (msgV .full .full msg0))] := by
      refine ⟨_, hA2.symm, ?_⟩
      first
        | (rw [if_pos ⟨‹_›, ‹_›⟩]; exact hR.err (by decide))
        | (rw [if_neg (fun h => by simp_all)]; exact hR)
  all_goals
    clear c ho h2 c2
    first
      | refine rfields_c hR hle1 hF1 fun s T' t u hR => ?_
      | (refine int_c hR fun s hR => ?_
         have h2 := hR.f (k1, _) (List.mem_cons_self ..)
         have c2 := cellAt_known h2.2
         have hkl := (List.getElem?_eq_some_iff.1 h2.2).1
         repeat' (first | (simp -dsimp only [↓reduceIte, go_sem, c2, h2.2, cellAt_setS, objs_setS, hkl, hj]) | (refine arr_intro fun _ => ?_) | (refine later_intro ⟨keeps_nil, ?_⟩) | (refine later_intro ⟨keeps_refl, ?_⟩) | (with_reducible refine keeps_go ?_ ?_; focus (first | (simp [keeps_cons, keeps_none, objs_app, objs_app0]; done) | (simp only [keeps_cons, keeps_none, objs_app0, objs_app, and_true]; first | rfl | exact ⟨rfl, rfl⟩ | exact ⟨rfl, rfl, rfl⟩))) | (with_reducible refine (And.intro (a := keeps _ _ _) ?_ ?_); focus (first | (simp [keeps_cons, keeps_none, objs_app, objs_app0]; done) | (simp only [keeps_cons, keeps_none, objs_app0, objs_app, and_true]; first | rfl | exact ⟨rfl, rfl⟩ | exact ⟨rfl, rfl, rfl⟩))) | (refine both_ways ?_ ?_) | (rw [wrap_i64 (by omega) (by omega)]) | (refine guardV_split (fun h => ?_) (fun h => ?_) <;> (try rw [h]) <;> (try simp at h) <;> (try (exfalso; omega))))
         have hR := hR.upd (o' := .cells (msgV .full .full (getM A.1 r1.int.1))) hle1 hF1
         refine rfields_c hR hle1 hF1 fun s T' t u hR => ?_)
  all_goals
    obtain ⟨m3, r3, e3, hR⟩ : ∃ m3 r3, getC l = (m3, r3) ∧ RF σ s T' j r3 [(k1, .cells (msgV t u m3)), (k0, .cells (msgV .full .full msg0))] := ⟨_, _, by simp only [getC, getB, hA1, ← h1]; simp [*], hR⟩
    have c := cellAt_known hR.o
    have h2 := hR.f (k1, .cells (msgV t u m3)) (by simp)
    have h0 := hR.f (k0, .cells (msgV .full .full msg0)) (by simp)
    dsimp only at h2 h0
    have c2 := cellAt_known h2.2
    have hkl := (List.getElem?_eq_some_iff.1 h0.2).1
    have n0 := h0.1.symm
    have n1 : k0 ≠ k1 := hF1 (k0, .cells (msgV .full .full msg0)) (by simp)
    have fin : ∀ (v : AV) t u, v = .tuple [msgV t u (getR l).1, .int .i64 (getR l).2] → Ext σ (s.set k0 (.cells (msgV t u (getR l).1))) ∧ v.noRef = true ∧ K v.strip σ := fun v t u hv => by
      subst hv
      refine ⟨hR.x.set (by omega), ?_, ?_⟩
      · simp [AV.noRef, AV.noRefs, msgPs, repPs, subPs, blobPs, noRefs_pends, noRefs_ints]
      · simp only [AV.strip, AV.strips, msg_strips]; exact hK _ _
    clear hK
    by_cases he : r3.e = 0
    · by_cases hat : r3.at_ < l.length
      · have e4 : getR l = (msg0, 6) := by simp only [getR, e3]; simp [he, hat]
        rw [e4] at fin
        repeat' (first | (simp -dsimp only [↓reduceIte, go_sem, hk1, hj, c, c2, h0.2, h2.2, he, hat, cellAt_setS, cellAt_setN, objs_setS, objs_setN, hkl, n0, n1]) | (refine arr_intro fun _ => ?_) | (refine later_intro ⟨keeps_nil, ?_⟩) | (refine later_intro ⟨keeps_refl, ?_⟩) | (with_reducible refine keeps_go ?_ ?_; focus (first | (simp [keeps_cons, keeps_none, objs_app, objs_app0]; done) | (simp only [keeps_cons, keeps_none, objs_app0, objs_app, and_true]; first | rfl | exact ⟨rfl, rfl⟩ | exact ⟨rfl, rfl, rfl⟩))) | (with_reducible refine (And.intro (a := keeps _ _ _) ?_ ?_); focus (first | (simp [keeps_cons, keeps_none, objs_app, objs_app0]; done) | (simp only [keeps_cons, keeps_none, objs_app0, objs_app, and_true]; first | rfl | exact ⟨rfl, rfl⟩ | exact ⟨rfl, rfl, rfl⟩))) | (refine both_ways ?_ ?_) | (rw [wrap_i64 (by omega) (by omega)]) | (refine guardV_split (fun h => ?_) (fun h => ?_) <;> (try rw [h]) <;> (try simp at h) <;> (try (exfalso; omega))) | (with_reducible refine awp_drawT (id := 9) (.op 0 2 (.op 1 0 (.op 2 0 (.op 3 0 (.op 4 0 (.op 5 1 (.op 6 2 .nil))))))) (by kernel_rfl) ?_))
        exact fin _ .full .full rfl
      · by_cases hm : m3.Ok
        · have e4 : getR l = (m3, 0) := by simp only [getR, e3]; simp [he, hat, hm]
          rw [e4] at fin
          repeat' (first | (simp -dsimp only [↓reduceIte, go_sem, hk1, hj, c, c2, h0.2, h2.2, he, hat, hm, cellAt_setS, cellAt_setN, objs_setS, objs_setN, hkl, n0, n1]) | (refine arr_intro fun _ => ?_) | (refine later_intro ⟨keeps_nil, ?_⟩) | (refine later_intro ⟨keeps_refl, ?_⟩) | (with_reducible refine keeps_go ?_ ?_; focus (first | (simp [keeps_cons, keeps_none, objs_app, objs_app0]; done) | (simp only [keeps_cons, keeps_none, objs_app0, objs_app, and_true]; first | rfl | exact ⟨rfl, rfl⟩ | exact ⟨rfl, rfl, rfl⟩))) | (with_reducible refine (And.intro (a := keeps _ _ _) ?_ ?_); focus (first | (simp [keeps_cons, keeps_none, objs_app, objs_app0]; done) | (simp only [keeps_cons, keeps_none, objs_app0, objs_app, and_true]; first | rfl | exact ⟨rfl, rfl⟩ | exact ⟨rfl, rfl, rfl⟩))) | (refine both_ways ?_ ?_) | (rw [wrap_i64 (by omega) (by omega)]) | (refine guardV_split (fun h => ?_) (fun h => ?_) <;> (try rw [h]) <;> (try simp at h) <;> (try (exfalso; omega))) | (with_reducible refine awp_drawT (id := 9) (.op 0 2 (.op 1 0 (.op 2 0 (.op 3 0 (.op 4 0 (.op 5 1 (.op 6 2 .nil))))))) (by kernel_rfl) ?_) | (refine right_c ?_))
          exact fin _ t u rfl
        · have e4 : getR l = (msg0, 6) := by simp only [getR, e3]; simp [he, hat, hm]
          rw [e4] at fin
          repeat' (first | (simp -dsimp only [↓reduceIte, go_sem, hk1, hj, c, c2, h0.2, h2.2, he, hat, hm, cellAt_setS, cellAt_setN, objs_setS, objs_setN, hkl, n0, n1]) | (refine arr_intro fun _ => ?_) | (refine later_intro ⟨keeps_nil, ?_⟩) | (refine later_intro ⟨keeps_refl, ?_⟩) | (with_reducible refine keeps_go ?_ ?_; focus (first | (simp [keeps_cons, keeps_none, objs_app, objs_app0]; done) | (simp only [keeps_cons, keeps_none, objs_app0, objs_app, and_true]; first | rfl | exact ⟨rfl, rfl⟩ | exact ⟨rfl, rfl, rfl⟩))) | (with_reducible refine (And.intro (a := keeps _ _ _) ?_ ?_); focus (first | (simp [keeps_cons, keeps_none, objs_app, objs_app0]; done) | (simp only [keeps_cons, keeps_none, objs_app0, objs_app, and_true]; first | rfl | exact ⟨rfl, rfl⟩ | exact ⟨rfl, rfl, rfl⟩))) | (refine both_ways ?_ ?_) | (rw [wrap_i64 (by omega) (by omega)]) | (refine guardV_split (fun h => ?_) (fun h => ?_) <;> (try rw [h]) <;> (try simp at h) <;> (try (exfalso; omega))) | (with_reducible refine awp_drawT (id := 9) (.op 0 2 (.op 1 0 (.op 2 0 (.op 3 0 (.op 4 0 (.op 5 1 (.op 6 2 .nil))))))) (by kernel_rfl) ?_) | (refine right_c ?_))
          exact fin _ .full .full rfl
    · have e4 : getR l = (msg0, r3.e) := by simp only [getR, e3]; simp [he]
      rw [e4] at fin
      repeat' (first | (simp -dsimp only [↓reduceIte, go_sem, hk1, hj, c, c2, h0.2, h2.2, he, cellAt_setS, cellAt_setN, objs_setS, objs_setN, hkl, n0, n1]) | (refine arr_intro fun _ => ?_) | (refine later_intro ⟨keeps_nil, ?_⟩) | (refine later_intro ⟨keeps_refl, ?_⟩) | (with_reducible refine keeps_go ?_ ?_; focus (first | (simp [keeps_cons, keeps_none, objs_app, objs_app0]; done) | (simp only [keeps_cons, keeps_none, objs_app0, objs_app, and_true]; first | rfl | exact ⟨rfl, rfl⟩ | exact ⟨rfl, rfl, rfl⟩))) | (with_reducible refine (And.intro (a := keeps _ _ _) ?_ ?_); focus (first | (simp [keeps_cons, keeps_none, objs_app, objs_app0]; done) | (simp only [keeps_cons, keeps_none, objs_app0, objs_app, and_true]; first | rfl | exact ⟨rfl, rfl⟩ | exact ⟨rfl, rfl, rfl⟩))) | (refine both_ways ?_ ?_) | (rw [wrap_i64 (by omega) (by omega)]) | (refine guardV_split (fun h => ?_) (fun h => ?_) <;> (try rw [h]) <;> (try simp at h) <;> (try (exfalso; omega))) | (with_reducible refine awp_drawT (id := 9) (.op 0 2 (.op 1 0 (.op 2 0 (.op 3 0 (.op 4 0 (.op 5 1 (.op 6 2 .nil))))))) (by kernel_rfl) ?_))
      refine ⟨?_, fin _ .full .full rfl⟩
      simp [keeps_cons, keeps_none, objs_setN h0.1]
end Go.Aff.L10

/- Layer 32, plainly: numbers with two contents. -/
namespace Go.Aff.L32
open Classical
set_option linter.unusedVariables false
variable {α β : Type}
/-- A thing ahead of all others that differ at it alone. -/
theorem countP_step {p q : α → Bool} {k : α} : ∀ {U : List α}, U.Nodup → k ∈ U → p k = false → q k = true → (∀ x, x ≠ k → q x = p x) → U.countP q = U.countP p + 1
  | [], _, h, _, _, _ => by simp at h
  | x :: U, hU, hk, hp, hq, he => by
    obtain ⟨hx, hU⟩ := List.nodup_cons.1 hU
    by_cases e : x = k
    · subst e
      have : U.countP q = U.countP p := List.countP_congr fun y hy => by rw [he y (fun e => hx (e ▸ hy))]
      simp [hp, hq, this]
    · have hk' : k ∈ U := (List.mem_cons.1 hk).resolve_left (fun h => e h.symm)
      have := countP_step hU hk' hp hq he
      simp only [List.countP_cons, he x e, this]; omega
theorem nodup_over : ∀ l : List α, ∃ U : List α, U.Nodup ∧ ∀ x ∈ l, x ∈ U
  | [] => ⟨[], List.nodup_nil, fun x h => h⟩
  | y :: l => by
    obtain ⟨U, hU, h⟩ := nodup_over l
    by_cases e : y ∈ U
    · exact ⟨U, hU, fun x hx => (List.mem_cons.1 hx).elim (fun e' => e' ▸ e) (h x)⟩
    · exact ⟨y :: U, List.nodup_cons.2 ⟨e, hU⟩, fun x hx => (List.mem_cons.1 hx).elim (fun e' => e' ▸ List.mem_cons_self ..) fun h' => List.mem_cons_of_mem _ (h x h')⟩
theorem countP_sub {p : α → Bool} : ∀ {l m : List α}, l.Nodup → (∀ x ∈ l, x ∈ m) → l.countP p ≤ m.countP p
  | [], m, _, _ => by simp
  | x :: l, m, hl, h => by
    obtain ⟨hx, hl⟩ := List.nodup_cons.1 hl
    have hm := List.perm_cons_erase (h x (List.mem_cons_self ..))
    have := countP_sub (p := p) (m := m.erase x) hl fun y hy => (List.mem_erase_of_ne (fun e : y = x => hx (by rw [← e]; exact hy))).2 (h y (List.mem_cons_of_mem _ hy))
    rw [hm.countP_eq p]
    simp only [List.countP_cons]; omega
/-- What came, each once. -/
noncomputable def D (l : List α) : List α := l.foldl (fun d x => if x ∈ d then d else d ++ [x]) []
theorem D_snoc {l : List α} {x : α} : D (l ++ [x]) = if x ∈ D l then D l else D l ++ [x] := by
  unfold D; rw [List.foldl_append]; rfl
theorem snoc_ind {P : List α → Prop} (h0 : P []) (h1 : ∀ l x, P l → P (l ++ [x])) (l : List α) : P l := by
  have : ∀ n (l : List α), l.length = n → P l := by
    intro n
    induction n with
    | zero => intro l hl; rw [List.length_eq_zero_iff.1 hl]; exact h0
    | succ n ih =>
      intro l hl
      have hne : l ≠ [] := by intro e; subst e; simp at hl
      rw [← List.dropLast_concat_getLast hne]
      exact h1 _ _ (ih _ (by simp [hl]))
  exact this _ l rfl
theorem D_mem {l : List α} {y : α} : y ∈ D l ↔ y ∈ l := by
  refine snoc_ind (P := fun l => y ∈ D l ↔ y ∈ l) (by simp [D]) (fun l x ih => ?_) l
  rw [D_snoc, List.mem_append, ← ih, List.mem_singleton]
  split
  · rename_i h; exact ⟨.inl, fun h' => h'.elim id fun e => e ▸ h⟩
  · rw [List.mem_append, List.mem_singleton]
theorem D_nodup {l : List α} : (D l).Nodup := by
  refine snoc_ind (P := fun l => (D l).Nodup) (by simp [D]) (fun l x ih => ?_) l
  rw [D_snoc]
  split
  · exact ih
  · rename_i h
    rw [List.nodup_append]
    exact ⟨ih, by simp, fun a ha b hb => by simp at hb; subst hb; exact fun e => h (e ▸ ha)⟩
/-- How many contents a key has. -/
noncomputable def many (l : List (α × β)) (k : α) : Nat := (D l).countP fun x => decide (x.1 = k)
/-- How many keys have two contents. -/
noncomputable def two (l : List (α × β)) : Nat := l.length.rec 0 fun i n => match l[i]? with
  | none => n
  | some x => if x ∈ l.take i then n else if many (l.take i) x.1 + 1 = 2 then n + 1 else n
noncomputable def twoL (l : List (α × β)) (i : Nat) : Nat := Nat.rec 0 (fun i n => match l[i]? with
  | none => n
  | some x => if x ∈ l.take i then n else if many (l.take i) x.1 + 1 = 2 then n + 1 else n) i
theorem twoL_next {l : List (α × β)} {i : Nat} {x : α × β} (h : l[i]? = some x) : twoL l (i + 1) = if x ∈ l.take i then twoL l i else if many (l.take i) x.1 + 1 = 2 then twoL l i + 1 else twoL l i := by
  show (match l[i]? with
    | none => twoL l i
    | some x => if x ∈ l.take i then twoL l i else if many (l.take i) x.1 + 1 = 2 then twoL l i + 1 else twoL l i) = _
  rw [h]
theorem many_snoc {l : List (α × β)} {x : α × β} {k : α} : many (l ++ [x]) k = if x ∈ l then many l k else many l k + if x.1 = k then 1 else 0 := by
  unfold many
  rw [D_snoc]
  by_cases h : x ∈ l
  · rw [if_pos (D_mem.2 h), if_pos h]
  · rw [if_neg (fun h' => h (D_mem.1 h')), if_neg h, List.countP_append]
    simp [List.countP_cons]
/-- The keys with two contents, among any that hold all keys. -/
theorem twoL_eq {l : List (α × β)} {U : List α} (hU : U.Nodup) (h : ∀ x ∈ l, x.1 ∈ U) : ∀ i ≤ l.length, twoL l i = U.countP fun k => decide (2 ≤ many (l.take i) k)
  | 0, _ => by
    have : (U.countP fun k => decide (2 ≤ many (l.take 0) k)) = 0 := List.countP_eq_zero.2 fun k _ => by simp [many, D]
    rw [this]; rfl
  | i + 1, hi => by
    have ih := twoL_eq hU h i (by omega)
    obtain ⟨x, hx⟩ : ∃ x, l[i]? = some x := ⟨l[i], List.getElem?_eq_getElem (by omega)⟩
    have hm : l.take (i + 1) = l.take i ++ [x] := by rw [List.take_add_one, hx]; rfl
    rw [twoL_next hx, hm]
    by_cases e : x ∈ l.take i
    · rw [if_pos e, ih]
      refine List.countP_congr fun k _ => ?_
      rw [many_snoc, if_pos e]
    · rw [if_neg e]
      have hms : ∀ k, many (l.take i ++ [x]) k = many (l.take i) k + if x.1 = k then 1 else 0 := fun k => by rw [many_snoc, if_neg e]
      by_cases e2 : many (l.take i) x.1 + 1 = 2
      · rw [if_pos e2, ih]
        symm
        refine countP_step (k := x.1) hU (h x (List.mem_of_getElem? hx)) ?_ ?_ fun y hy => ?_
        · simp; omega
        · rw [hms, if_pos rfl]; simp; omega
        · rw [hms, if_neg (fun e => hy e.symm)]; rfl
      · rw [if_neg e2, ih]
        refine List.countP_congr fun k _ => ?_
        rw [hms]
        by_cases ek : x.1 = k
        · subst ek; rw [if_pos rfl]; simp; omega
        · rw [if_neg ek]; rfl
noncomputable def twos (l : List (α × β)) : Nat := twoL l l.length
theorem many_mono {l m : List (α × β)} (h : ∀ x ∈ l, x ∈ m) (k : α) : many l k ≤ many m k := countP_sub D_nodup fun x hx => D_mem.2 (h x (D_mem.1 hx))
theorem twos_mono {l m : List (α × β)} (h : ∀ x ∈ l, x ∈ m) : twos l ≤ twos m := by
  obtain ⟨U, hU, hm⟩ := nodup_over (m.map (·.1))
  have h1 : ∀ x ∈ m, x.1 ∈ U := fun x hx => hm _ (List.mem_map_of_mem hx)
  unfold twos
  rw [twoL_eq hU (fun x hx => h1 x (h x hx)) _ (Nat.le_refl _), twoL_eq hU h1 _ (Nat.le_refl _), List.take_length, List.take_length]
  refine List.countP_mono_left fun k _ hk => ?_
  have := many_mono h k
  simp at hk ⊢; omega
theorem twos_same {l m : List (α × β)} (h : ∀ x, x ∈ l ↔ x ∈ m) : twos l = twos m := Nat.le_antisymm (twos_mono fun x hx => (h x).1 hx) (twos_mono fun x hx => (h x).2 hx)
end Go.Aff.L32

/- Layer 32, plainly: two contents, more of it. -/
namespace Go.Aff.L32
open Classical
set_option linter.unusedVariables false
variable {α β : Type}
theorem twoL_app {l m : List (α × β)} : ∀ {i : Nat}, i ≤ l.length → twoL (l ++ m) i = twoL l i
  | 0, _ => rfl
  | i + 1, h => by
    have hx : l[i]? = some l[i] := List.getElem?_eq_getElem (by omega)
    have hx' : (l ++ m)[i]? = some l[i] := by rw [List.getElem?_append_left (by omega)]; exact hx
    rw [twoL_next hx, twoL_next hx', twoL_app (by omega), List.take_append_of_le_length (by omega)]
theorem twos_snoc {l : List (α × β)} {x : α × β} : twos (l ++ [x]) = if x ∈ l then twos l else if many l x.1 + 1 = 2 then twos l + 1 else twos l := by
  have hx : (l ++ [x])[l.length]? = some x := by simp
  have h := twoL_next hx
  rw [twoL_app (Nat.le_refl _), List.take_left'] at h
  · simpa [twos] using h
  · rfl
theorem twos_nil : twos ([] : List (α × β)) = 0 := rfl
theorem many_nil {k : α} : many ([] : List (α × β)) k = 0 := by simp [many, D]
end Go.Aff.L32

