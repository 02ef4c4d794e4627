import Derived.Test.YtahhjdknfhkgcaaG10
import Derived.Test.YtahhjdknfhkgcaaG9

set_option linter.unusedSimpArgs false
set_option linter.unusedVariables false

namespace Go.Aff.L10
open Go.Proofs Go.Aff Go.Aff.L01 Classical
set_option maxRecDepth 20000
attribute [local go_sem] push_app app_app length_app cellAt_app cellAt_app0 set_app set_app0 objs_app objs_app0 List.cons_append List.nil_append List.length_cons List.length_nil List.getElem?_cons_zero List.getElem?_cons_succ List.set_cons_zero List.set_cons_succ List.length_map
attribute [-go_sem] cellAt_new
attribute [-simp] List.length_flatMap
attribute [local go_sem] Try.underlying3 Try.underlying5 Try.underlying9 Try.underlying65 Try.underlying68 Try.underlying50 Try.underlying123 subPs_0 subAt_0 subPs_1 subAt_1 subPs_2 subAt_2 subPs_3 subAt_3 subPs_4 subAt_4 subPs_5 subAt_5 sizes_sub shapes_sub fits_sub zero_sub zt_sub built_sub Try.underlying67 pendPs_0 pendAt_0 pendPs_1 pendAt_1 pendPs_2 pendAt_2 pendPs_3 pendAt_3 pendPs_4 pendAt_4 pendPs_5 pendAt_5 sizes_pend shapes_pend fits_pend zero_pend zt_pend Try.underlying163 repPs_0 repAt_0 repPs_1 repAt_1 repPs_2 repAt_2 repPs_3 repAt_3 repPs_4 repAt_4 repPs_5 repAt_5 repPs_6 repAt_6 repPs_7 repAt_7 repPs_8 repAt_8 repPs_9 repAt_9 sizes_rep shapes_rep fits_rep zero_rep zt_rep built_rep Try.underlying70 blobPs_0 blobAt_0 blobPs_1 blobAt_1 blobPs_2 blobAt_2 blobPs_3 blobAt_3 sizes_blob shapes_blob fits_blob zero_blob zt_blob built_blob Try.underlying72 msgPs_0 msgAt_0 msgSet_0 msgPs_1 msgAt_1 msgSet_1 msgPs_2 msgAt_2 msgSet_2 msgPs_3 msgAt_3 msgSet_3 msgPs_4 msgAt_4 msgSet_4 msgPs_5 msgAt_5 msgSet_5 msgPs_6 msgAt_6 msgSet_6 msgPs_7 msgAt_7 msgSet_7 msgPs_8 msgAt_8 msgSet_8 msgPs_9 msgAt_9 sizes_msg shapes_msg fits_msg zero_msg zt_msg built_msg Try.underlying74
attribute [local go_sem] fits3 fits5 fits9 fits23 fits26 fits31 zt3 zt23 zero23 bin_sub_eql bin_pend_neq bin_blob_eql bin_dig23_eql bin_dig23_neq
attribute [local go_sem ↓] blockQ_exit2
attribute [local simp] dig_ext
theorem built23 : Built Try.prog 65 = True := eq_true (by unfold Built; rw [Try.underlying65]; decide +kernel)
theorem msgSet_9n {m : Msg} {t u v : Tk} : (msgPs t u m).set 9 (.slice v []) = msgPs t v { m with nums := [] } := rfl
attribute [local go_sem] bin_bool_ne appc appn built23 msgSet_9n

def Msg.bare (m : Msg) : Msg :=
  if m.kind = 1 then { m with sub := sub0 }
  else if m.kind = 2 then { m with rep := rep0 }
  else if m.kind = 3 then { m with view := [], tag := dig0 }
  else if m.kind = 4 ∨ m.kind = 6 then { m with blob := blob0 }
  else if m.kind = 5 ∨ m.kind = 7 ∨ m.kind = 8 then { m with nums := [] }
  else if m.kind = 10 then { m with by_ := 0, view := [], tag := dig0, own := dig0 }
  else if m.kind = 11 then { m with own := dig0 }
  else m
def Msg.head (m : Msg) : Msg := { msg0 with kind := m.kind, client := m.client }
theorem bare_c {m : Msg} (hw : -9223372036854775808 ≤ m.by_ ∧ m.by_ ≤ 9223372036854775807) {t u : Tk} {σ : AST} {K : AV → AST → Prop} (hK : ∀ t' u', K (msgV t' u' m.bare) σ) : TCalls Try.prog 63 [msgV t u m] σ K := by
  refine TCalls.drop ?_
  refine tcalls_walk Try.f63 _ [.cell 2 74] Try.func63 rfl rfl rfl mixed (Nat.le_of_ble_eq_true rfl) rfl fun hlen => ?_
  repeat' (first | (simp -dsimp only [↓reduceIte, go_sem]) | (refine arr_intro fun _ => ?_) | (refine later_intro ⟨keeps_nil, ?_⟩) | (refine later_intro ⟨keeps_refl, ?_⟩) | (with_reducible refine keeps_go ?_ ?_; focus (first | (simp [keeps_cons, keeps_none, objs_app, objs_app0]; done) | (simp only [keeps_cons, keeps_none, objs_app0, objs_app, and_true]; first | rfl | exact ⟨rfl, rfl⟩ | exact ⟨rfl, rfl, rfl⟩))) | (with_reducible refine (And.intro (a := keeps _ _ _) ?_ ?_); focus (first | (simp [keeps_cons, keeps_none, objs_app, objs_app0]; done) | (simp only [keeps_cons, keeps_none, objs_app0, objs_app, and_true]; first | rfl | exact ⟨rfl, rfl⟩ | exact ⟨rfl, rfl, rfl⟩))) | (refine both_ways ?_ ?_) | (rw [wrap_i64 (by omega) (by omega)]) | (refine guardV_split (fun h => ?_) (fun h => ?_) <;> (try rw [h]) <;> (try simp at h) <;> (try (exfalso; omega))))
  all_goals
    refine ⟨Ext.app _ _, ?_, ?_⟩
    · simp [AV.noRef, AV.noRefs, msgPs, repPs, subPs, blobPs, noRefs_pends, noRefs_ints, msg0, rep0, sub0, blob0]
    · simp only [AV.strip, AV.strips, msg_strips]
      have key : ∀ {x : Msg} {t' u' : Tk}, x = m.bare → K (msgV t' u' x) σ := fun {x t' u'} h1 => by rw [h1]; exact hK t' u'
      refine key ?_
      simp_all [Msg.bare]
def Msg.Fields2 (m : Msg) : Prop :=
  if m.kind = 1 then (In 1 512 m.sub.num ∧ In 1 2 m.sub.kind ∧ In 0 7 m.sub.target) ∧ m.sub.value.length ≤ 256
  else if m.kind = 2 then m.client = 0 ∧ m.rep.Ok
  else if m.kind = 3 then m.view ≠ [] ∧ ViewOk 8 m.view
  else if m.kind = 4 ∨ m.kind = 6 then m.client = 0 ∧ In 0 7 m.blob.owner ∧ In 0 1099511627776 m.blob.num ∧ m.blob.cipher.length ≤ 4096
  else if m.kind = 5 ∨ m.kind = 7 ∨ m.kind = 8 then NumsOk m.nums
  else if m.kind = 10 then In 0 7 m.by_ ∧ m.view ≠ [] ∧ ViewOk 8 m.view
  else True
theorem Msg.ok_iff {m : Msg} : m.Ok ↔ In 1 11 m.kind ∧ In 0 7 m.client ∧ m.bare = m.head ∧ m.Fields2 := by
  unfold Msg.Ok
  by_cases k : m.kind = 1 ∨ m.kind = 2 ∨ m.kind = 3 ∨ m.kind = 4 ∨ m.kind = 5 ∨ m.kind = 6 ∨ m.kind = 7 ∨ m.kind = 8 ∨ m.kind = 9 ∨ m.kind = 10 ∨ m.kind = 11
  · rcases k with k | k | k | k | k | k | k | k | k | k | k
    all_goals
      simp only [Msg.FieldsOk, Msg.own_, Msg.bare, Msg.head, Msg.Fields2, k, Msg.iff, Sub.Ok, Blob.Ok]
      have hin : In 1 11 m.kind := by rw [k]; simp [In]
      rw [k] at hin
      simp [msg0, hin]
      try grind
  · have h1 : ¬ m.FieldsOk := by
      unfold Msg.FieldsOk
      simp_all
    have h2 : ¬ In 1 11 m.kind := by unfold In; omega
    simp [h1, h2]
theorem refRight_c {m : Msg} (hw : -9223372036854775808 ≤ m.by_ ∧ m.by_ ≤ 9223372036854775807) {t u : Tk} {σ : AST} {K : AV → AST → Prop} (hK : K (.bool (decide m.Ok)) σ) : TCalls Try.prog 23 [msgV t u m] σ K := by
  refine TCalls.drop ?_
  refine tcalls_walk Try.f23 _ [.tmp 2] Try.func23 rfl rfl rfl mixed (Nat.le_of_ble_eq_true rfl) rfl fun hlen => ?_
  repeat' (first | (simp -dsimp only [↓reduceIte, go_sem]) | (refine arr_intro fun _ => ?_) | (refine later_intro ⟨keeps_nil, ?_⟩) | (refine later_intro ⟨keeps_refl, ?_⟩) | (with_reducible refine keeps_go ?_ ?_; focus (first | (simp [keeps_cons, keeps_none, objs_app, objs_app0]; done) | (simp only [keeps_cons, keeps_none, objs_app0, objs_app, and_true]; first | rfl | exact ⟨rfl, rfl⟩ | exact ⟨rfl, rfl, rfl⟩))) | (with_reducible refine (And.intro (a := keeps _ _ _) ?_ ?_); focus (first | (simp [keeps_cons, keeps_none, objs_app, objs_app0]; done) | (simp only [keeps_cons, keeps_none, objs_app0, objs_app, and_true]; first | rfl | exact ⟨rfl, rfl⟩ | exact ⟨rfl, rfl, rfl⟩))) | (refine both_ways ?_ ?_) | (rw [wrap_i64 (by omega) (by omega)]) | (refine guardV_split (fun h => ?_) (fun h => ?_) <;> (try rw [h]) <;> (try simp at h) <;> (try (exfalso; omega))) | (with_reducible refine awp_drawS (id := 1) [0, 1, 2, 3, 4, 5, 6, 7, 8, 9, 10, 11, 13, 14, 15, 16, 17, 12, 18, 19, 20] (by kernel_rfl) ?_) | (refine Within_c ?_) | (refine bare_c hw fun t' u' => ?_) | (refine refSame_c (b := m.head) ?_) | (refine asks_c ?_) | (refine refReply_c ?_) | (refine refHist_c (by omega) (by omega) ?_) | (refine refNums_c ?_))
  all_goals refine bool_endDX (Ext.app _ _) hK ?_
  all_goals rw [Msg.ok_iff]
  all_goals first | (simp_all [Msg.Fields2, -not_and] <;> fail) | (simp_all [Msg.Fields2]; omega) | (simp_all [Msg.Fields2] <;> grind)
end Go.Aff.L10

namespace Go.Aff

variable {P : Program} {σ σ' : AST} {ops : Array Oper} {τ : Env} {KE : Env → AST → Prop}

inductive Tu where
  | nil
  | op (i k : Nat) (r : Tu)
  | fork (e : Nat) (a b : Tu)
  | cut (r : Tu)
def Tu.tr : Tu → Tr
  | .nil => .nil
  | .op i _ r => .op i r.tr
  | .fork e a b => .fork e a.tr b.tr
  | .cut r => r.tr
def Tu.all : Tu → List Nat
  | .nil => []
  | .op i k r => if k = 1 ∨ k = 3 then i :: r.all else r.all
  | .fork _ a b => a.all ++ b.all
  | .cut r => r.all
def Tu.effs : Tu → List Nat
  | .nil => []
  | .op i k r => if k = 1 then i :: r.all else r.effs
  | .fork _ a b => a.effs ++ b.effs
  | .cut r => r.effs
def seqU (P : Program) (ops : Array Oper) : Tu → List Nat → Env → AST → (Env → AST → Prop) → Prop
  | .nil, ks, τ, σ, K => K τ σ
  | .op i 1 r, ks, τ, σ, K => match gop ops i with
    | none => False
    | some o => stepW P ops o τ σ fun v σ' => keeps ks σ σ' ∧ seqU P ops r ks (τ.putO o.dst v) σ' K
  | .op i 0 r, ks, τ, σ, K => match gop ops i with
    | none => False
    | some o => stepW P ops o τ σ fun v σ' => σ' = σ ∧ seqU P ops r (reads (ev τ) o.op ++ ks) (τ.putO o.dst v) σ' K
  | .op i _ r, ks, τ, σ, K => match gop ops i with
    | none => False
    | some o => stepW P ops o τ σ fun v σ' => σ' = σ ∧ seqU P ops r ks (τ.putO o.dst v) σ' K
  | .fork _ a b, ks, τ, σ, K => seqU P ops a ks τ σ K ∧ seqU P ops b ks τ σ K
  | .cut r, ks, τ, σ, K => seqU P ops r [] τ σ K

def flagsU (P : Program) (ops : Array Oper) : Tu → List Nat → Bool
  | .nil, _ => true
  | .op i k r, zs => (match ops[i]? with
    | none => false
    | some o => effO P o == (k == 1 || k == 3)) && (k == 0 || k == 1 || k == 3 || r.effs.all fun y => ahead (anc ops) y i) && flagsU P ops r (if k = 0 then i :: zs else zs)
  | .fork _ a b, zs => flagsU P ops a zs && flagsU P ops b zs
  | .cut r, zs => (zs.all fun z => r.effs.all fun y => ahead (anc ops) y z) && flagsU P ops r []

def pastU (P : Program) (ops : Array Oper) (ks zs : List Nat) (past : List (Nat × Env × AV)) (T : Tu) (σ : AST) : Prop :=
  ∀ x ∈ past, (validT P ops x σ ∧ x.1 ∈ zs ∧ ∀ o, ops[x.1]? = some o → ∀ k ∈ reads (ev x.2.1) o.op, k ∈ ks) ∨ (validT P ops x σ ∧ ∀ y ∈ T.effs, ahead (anc ops) y x.1 = true) ∨ (∀ y ∈ T.all, ahead (anc ops) y x.1 = true)

theorem seqU_pure (i k : Nat) (r : Tu) (ks zs : List Nat) (past : List (Nat × Env × AV)) (τ : Env) (σ : AST) (k0 : k ≠ 0) (k1 : k ≠ 1) (k3 : k ≠ 3)
    (ih : ∀ (past' : List (Nat × Env × AV)) (τ' : Env), flagsU P ops r zs = true → pastU P ops ks zs past' r σ → (∀ t, lenOk (τ' t)) → seqU P ops r ks τ' σ KE → awpT P ops r.tr past' τ' σ KE)
    (hf : flagsU P ops (.op i k r) zs = true) (hp : pastU P ops ks zs past (.op i k r) σ) (hlen : ∀ t, lenOk (τ t))
    (h : match gop ops i with
      | none => False
      | some o => stepW P ops o τ σ fun v σ' => σ' = σ ∧ seqU P ops r ks (τ.putO o.dst v) σ' KE) : awpT P ops (Tu.op i k r).tr past τ σ KE := by
  split at h
  · exact h.elim
  · rename_i o hk
    have hk : ops[i]? = some o := hk
    simp only [flagsU, hk, Bool.and_eq_true, beq_iff_eq] at hf
    have b0 : (k == 0) = false := by simpa using k0
    have b1 : (k == 1) = false := by simpa using k1
    have b3 : (k == 3) = false := by simpa using k3
    rw [b0, b1, b3, if_neg k0] at hf
    have he : effO P o = false := by simpa using hf.1.1
    have hall : (r.effs.all fun y => ahead (anc ops) y i) = true := by simpa using hf.1.2
    rw [List.all_eq_true] at hall
    simp only [Tu.tr, awpT, hk, he, Bool.false_eq_true, if_false]
    obtain ⟨v, hv, hkk⟩ := stepW_det hlen he h
    refine hkk _ fun hlv => ih _ _ hf.2 ?_ hlv hv.2
    intro x hx
    rcases List.mem_cons.1 hx with rfl | hx
    · right; left
      refine ⟨fun o' ho' => ?_, hall⟩
      dsimp only at ho' ⊢
      rw [hk] at ho'; cases ho'
      exact ⟨hlen, he, hkk _ ⟨rfl, rfl⟩⟩
    · rcases hp x hx with ⟨h0, h1⟩ | ⟨h0, h1⟩ | h0
      · exact .inl ⟨h0, h1⟩
      · exact .inr (.inl ⟨h0, fun y hy => h1 y (by simpa [Tu.effs, k1] using hy)⟩)
      · exact .inr (.inr fun y hy => h0 y (by simpa [Tu.all, k1, k3] using hy))
theorem seqU_awpT : ∀ (T : Tu) (ks zs : List Nat) (past : List (Nat × Env × AV)) (τ : Env) (σ : AST), flagsU P ops T zs = true → pastU P ops ks zs past T σ → (∀ t, lenOk (τ t)) → seqU P ops T ks τ σ KE → awpT P ops T.tr past τ σ KE
  | .nil, ks, zs, past, τ, σ, hf, hp, hlen, h => h
  | .fork e a b, ks, zs, past, τ, σ, hf, hp, hlen, h => by
    simp only [flagsU, Bool.and_eq_true] at hf
    simp only [seqU] at h
    refine ⟨seqU_awpT a ks zs past τ σ hf.1 (fun x hx => ?_) hlen h.1, seqU_awpT b ks zs past τ σ hf.2 (fun x hx => ?_) hlen h.2⟩
    · rcases hp x hx with h | ⟨h1, h2⟩ | h
      · exact .inl h
      · exact .inr (.inl ⟨h1, fun y hy => h2 y (by simp [Tu.effs, hy])⟩)
      · exact .inr (.inr fun y hy => h y (by simp [Tu.all, hy]))
    · rcases hp x hx with h | ⟨h1, h2⟩ | h
      · exact .inl h
      · exact .inr (.inl ⟨h1, fun y hy => h2 y (by simp [Tu.effs, hy])⟩)
      · exact .inr (.inr fun y hy => h y (by simp [Tu.all, hy]))
  | .cut r, ks, zs, past, τ, σ, hf, hp, hlen, h => by
    simp only [flagsU, Bool.and_eq_true, List.all_eq_true] at hf
    simp only [seqU] at h
    refine seqU_awpT r [] [] past τ σ hf.2 (fun x hx => ?_) hlen h
    rcases hp x hx with ⟨h0, hz, _⟩ | ⟨h0, h1⟩ | h0
    · exact .inr (.inl ⟨h0, fun y hy => hf.1 x.1 hz y hy⟩)
    · exact .inr (.inl ⟨h0, fun y hy => h1 y (by simpa [Tu.effs] using hy)⟩)
    · exact .inr (.inr fun y hy => h0 y (by simpa [Tu.all] using hy))
  | .op i 1 r, ks, zs, past, τ, σ, hf, hp, hlen, h => by
    simp only [seqU] at h
    split at h
    · exact h.elim
    · rename_i o hk
      have hk : ops[i]? = some o := hk
      simp only [flagsU, hk, Bool.and_eq_true, beq_iff_eq] at hf
      have he : effO P o = true := by simpa using hf.1.1
      simp only [Tu.tr, awpT, hk, he, if_true]
      refine stepW_mono (fun v σ' hh => ?_) h
      refine ⟨fun x hx hah o ho => ?_, fun hlv => seqU_awpT r ks zs past _ _ (by simpa using hf.2) ?_ hlv hh.2⟩
      · rcases hp x hx with ⟨h0, hz, h3⟩ | ⟨_, h0⟩ | h0
        · obtain ⟨h1, h2, h4⟩ := h0 o ho
          exact step_same h1 h2 (fun k hk => hh.1 k (h3 o ho k hk)) h4
        · rw [h0 i (by simp [Tu.effs])] at hah; cases hah
        · rw [h0 i (by simp [Tu.all])] at hah; cases hah
      · intro x hx
        rcases hp x hx with ⟨h0, hz, h3⟩ | ⟨_, h0⟩ | h0
        · left
          refine ⟨fun o ho => ?_, hz, h3⟩
          obtain ⟨h1, h2, h4⟩ := h0 o ho
          exact ⟨h1, h2, step_same h1 h2 (fun k hk => hh.1 k (h3 o ho k hk)) h4⟩
        · right; right
          intro y hy; exact h0 y (by simp [Tu.effs, hy])
        · right; right
          intro y hy; exact h0 y (by simp [Tu.all, hy])
  | .op i 3 r, ks, zs, past, τ, σ, hf, hp, hlen, h => by
    simp only [seqU] at h
    split at h
    · exact h.elim
    · rename_i o hk
      have hk : ops[i]? = some o := hk
      simp only [flagsU, hk, Bool.and_eq_true, beq_iff_eq] at hf
      have he : effO P o = true := by simpa using hf.1.1
      simp only [Tu.tr, awpT, hk, he, if_true]
      refine stepW_mono (fun v σ' hh => ?_) h
      obtain ⟨rfl, hh⟩ := hh
      refine ⟨fun x hx hah o ho => ?_, fun hlv => seqU_awpT r ks zs past _ _ (by simpa using hf.2) ?_ hlv hh⟩
      · rcases hp x hx with ⟨h0, h3⟩ | ⟨h0, _⟩ | h0
        · exact (h0 o ho).2.2
        · exact (h0 o ho).2.2
        · rw [h0 i (by simp [Tu.all])] at hah; cases hah
      · intro x hx
        rcases hp x hx with h0 | ⟨h0, h1⟩ | h0
        · exact .inl h0
        · exact .inr (.inl ⟨h0, fun y hy => h1 y (by simpa [Tu.effs] using hy)⟩)
        · exact .inr (.inr fun y hy => h0 y (by simp [Tu.all, hy]))
  | .op i 0 r, ks, zs, past, τ, σ, hf, hp, hlen, h => by
    simp only [seqU] at h
    split at h
    · exact h.elim
    · rename_i o hk
      have hk : ops[i]? = some o := hk
      simp only [flagsU, hk, Bool.and_eq_true, beq_iff_eq] at hf
      have he : effO P o = false := by simpa using hf.1.1
      simp only [Tu.tr, awpT, hk, he, Bool.false_eq_true, if_false]
      obtain ⟨v, hv, hkk⟩ := stepW_det hlen he h
      refine hkk _ fun hlv => seqU_awpT r _ (i :: zs) _ _ _ (by simpa using hf.2) ?_ hlv hv.2
      intro x hx
      rcases List.mem_cons.1 hx with rfl | hx
      · left
        refine ⟨fun o' ho' => ?_, List.mem_cons_self .., fun o' ho' k hkr => ?_⟩
        · dsimp only at ho' ⊢
          rw [hk] at ho'; cases ho'
          exact ⟨hlen, he, hkk _ ⟨rfl, rfl⟩⟩
        · dsimp only at ho' hkr
          rw [hk] at ho'; cases ho'
          exact List.mem_append_left _ hkr
      · rcases hp x hx with ⟨h0, hz, h1⟩ | ⟨h0, h1⟩ | h0
        · exact .inl ⟨h0, List.mem_cons_of_mem _ hz, fun o' ho' k hkr => List.mem_append_right _ (h1 o' ho' k hkr)⟩
        · exact .inr (.inl ⟨h0, fun y hy => h1 y (by simpa [Tu.effs] using hy)⟩)
        · exact .inr (.inr fun y hy => h0 y (by simpa [Tu.all] using hy))
  | .op i 2 r, ks, zs, past, τ, σ, hf, hp, hlen, h => seqU_pure i 2 r ks zs past τ σ (by decide) (by decide) (by decide) (fun past' K' h1 h2 h3 h4 => seqU_awpT r ks zs past' _ σ h1 h2 h3 h4) hf hp hlen (by simpa only [seqU] using h)
  | .op i (n + 4) r, ks, zs, past, τ, σ, hf, hp, hlen, h => seqU_pure i (n + 4) r ks zs past τ σ (by omega) (by omega) (by omega) (fun past' K' h1 h2 h3 h4 => seqU_awpT r ks zs past' _ σ h1 h2 h3 h4) hf hp hlen (by simpa only [seqU] using h)

theorem awp_drawU {id : Nat} {ops : Array Oper} {Q : Exit → Env → AST → Prop} (T : Tu) (ho : (trOk P ops T.tr && flagsU P ops T []) = true) (h : seqU P ops T [] τ σ (Q .normal)) : awp P (.region id ops true) Q τ σ := by
  rw [Bool.and_eq_true] at ho
  exact awp_drawTree _ ho.1 fun hlen => seqU_awpT T [] [] [] τ σ ho.2 (fun x hx => by simp at hx) hlen h

def seqU0 (P : Program) (ops : Array Oper) (o : Option Oper) (r : Tu) (ks : List Nat) (τ : Env) (σ : AST) (K : Env → AST → Prop) : Prop := match o with
  | none => False
  | some o => stepW P ops o τ σ fun v σ' => σ' = σ ∧ seqU P ops r (reads (ev τ) o.op ++ ks) (τ.putO o.dst v) σ' K
def seqU1 (P : Program) (ops : Array Oper) (o : Option Oper) (r : Tu) (ks : List Nat) (τ : Env) (σ : AST) (K : Env → AST → Prop) : Prop := match o with
  | none => False
  | some o => stepW P ops o τ σ fun v σ' => keeps ks σ σ' ∧ seqU P ops r ks (τ.putO o.dst v) σ' K
def seqU2 (P : Program) (ops : Array Oper) (o : Option Oper) (r : Tu) (ks : List Nat) (τ : Env) (σ : AST) (K : Env → AST → Prop) : Prop := match o with
  | none => False
  | some o => stepW P ops o τ σ fun v σ' => σ' = σ ∧ seqU P ops r ks (τ.putO o.dst v) σ' K
variable {ks : List Nat}
theorem seqU_nil : seqU P ops .nil ks τ σ KE = KE τ σ := nr rfl
theorem seqU_1 {i : Nat} {r : Tu} : seqU P ops (.op i 1 r) ks τ σ KE = seqU1 P ops (gop ops i) r ks τ σ KE := by simp only [seqU, seqU1]
theorem seqU_0 {i : Nat} {r : Tu} : seqU P ops (.op i 0 r) ks τ σ KE = seqU0 P ops (gop ops i) r ks τ σ KE := by simp only [seqU, seqU0]
theorem seqU_3 {i : Nat} {r : Tu} : seqU P ops (.op i 3 r) ks τ σ KE = seqU2 P ops (gop ops i) r ks τ σ KE := by simp only [seqU, seqU2]
theorem seqU_2 {i : Nat} {r : Tu} : seqU P ops (.op i 2 r) ks τ σ KE = seqU2 P ops (gop ops i) r ks τ σ KE := by simp only [seqU, seqU2]
theorem seqU_cut {r : Tu} : seqU P ops (.cut r) ks τ σ KE = seqU P ops r [] τ σ KE := by simp only [seqU]
theorem seqU_fork {e : Nat} {a b : Tu} : seqU P ops (.fork e a b) ks τ σ KE = Both (@Later ⟨seqU P ops a ks τ σ KE⟩) (@Later ⟨seqU P ops b ks τ σ KE⟩) := by
  simp only [seqU, Later, eq_iff_iff]
  exact ⟨fun h => ⟨h.1, h.2⟩, fun h => ⟨h.l, h.r⟩⟩
theorem seqU1_some {o : Oper} {r : Tu} : seqU1 P ops (some o) r ks τ σ KE = stepW P ops o τ σ (@Lam ⟨fun v σ' => @Later ⟨keeps ks σ σ' ∧ seqU P ops r ks (τ.putO o.dst v) σ' KE⟩⟩) := nr rfl
theorem seqU0_some {o : Oper} {r : Tu} : seqU0 P ops (some o) r ks τ σ KE = stepW P ops o τ σ (@Lam ⟨fun v σ' => σ' = σ ∧ @Later ⟨seqU P ops r (reads (ev τ) o.op ++ ks) (τ.putO o.dst v) σ' KE⟩⟩) := nr rfl
theorem seqU2_some {o : Oper} {r : Tu} : seqU2 P ops (some o) r ks τ σ KE = stepW P ops o τ σ (@Lam ⟨fun v σ' => σ' = σ ∧ @Later ⟨seqU P ops r ks (τ.putO o.dst v) σ' KE⟩⟩) := nr rfl
attribute [go_sem ↓] seqU_nil seqU_0 seqU_1 seqU_2 seqU_3 seqU_fork seqU_cut seqU0_some seqU1_some seqU2_some
end Go.Aff

namespace Go.Aff

variable {P : Program} {σ : AST} {ρ : Operand → AV} {K : AV → AST → Prop} {dst : Option Tmp} {ty : TypeId} {pos : String} {after : Array Edge} {gd : Option (Nat × Bool)}
theorem op_lookup {t : TypeId} {x k : Operand} {ok : Bool} : opW P ρ ⟨dst, .lookup t x k ok, ty, pos, after, gd⟩ σ K = lookupW P σ t (ρ x) (ρ k) ok (At K σ) := nr rfl
theorem op_mapUpdate {t : TypeId} {m k v : Operand} : opW P ρ ⟨dst, .mapUpdate t m k v, ty, pos, after, gd⟩ σ K = mapUpdateW P σ t (ρ m) (ρ k) (ρ v) (AtS K .undef) := nr rfl
theorem op_mapEntry {t : TypeId} {m k : Operand} : opW P ρ ⟨dst, .mapEntry t m k, ty, pos, after, gd⟩ σ K = mapEntryW P σ t (ρ m) (ρ k) K := nr rfl
theorem op_entryStore {t : TypeId} {m st v : Operand} : opW P ρ ⟨dst, .entryStore t m st v, ty, pos, after, gd⟩ σ K = entryStoreW σ (ρ m) (ρ st) (ρ v) (AtS K .undef) := nr rfl
theorem op_makeMap {t : TypeId} : opW P ρ ⟨dst, .makeMap t none, ty, pos, after, gd⟩ σ K = K (.mp (some σ.objs.length)) (σ.push (.map [] 0)) := nr rfl
theorem op_makeSlice {t : TypeId} {n c : Operand} : opW P ρ ⟨dst, .makeSlice t n c, ty, pos, after, gd⟩ σ K = makeSliceW P t (ρ n) (ρ c) σ K := nr rfl
theorem op_delete {s x : Operand} {ts : Array TypeId} : opW P ρ ⟨dst, .call ⟨.builtin .delete, #[s, x], ts⟩, ty, pos, after, gd⟩ σ K = deleteW P ts (ρ s) (ρ x) σ (AtS K (.tuple [])) := nr rfl
theorem op_clear {s : Operand} {ts : Array TypeId} : opW P ρ ⟨dst, .call ⟨.builtin .clear, #[s], ts⟩, ty, pos, after, gd⟩ σ K = clearW P ts (ρ s) σ (AtS K (.tuple [])) := nr rfl
theorem op_range {t : TypeId} {x : Operand} : opW P ρ ⟨dst, .range t x, ty, pos, after, gd⟩ σ K = rangeW P σ t (ρ x) K := nr rfl
theorem op_next {x : Operand} {s : Bool} : opW P ρ ⟨dst, .next x s, ty, pos, after, gd⟩ σ K = nextW σ (ρ x) s K := nr rfl
theorem op_entry {x : Operand} : opW P ρ ⟨dst, .entry x, ty, pos, after, gd⟩ σ K = entryW σ (ρ x) (At K σ) := nr rfl
attribute [go_sem ↓] op_range op_next op_entry op_lookup op_mapUpdate op_mapEntry op_entryStore op_makeMap op_makeSlice op_delete op_clear
end Go.Aff

namespace Go.Aff

def invokeW (P : Program) (v : AV) (m : String) (ws : List AV) (σ : AST) (K : AV → AST → Prop) : Prop := match v with
  | .iface t v => ∃ f, methodIs P t m f ∧ TCalls P f (v :: ws) σ K
  | _ => False
section
variable {P : Program} {ρ : Operand → AV} {σ : AST} {K : AV → AST → Prop}
theorem op_invoke {r : Operand} {m : String} {args : Array Operand} {ts : Array TypeId} {dst : Option Nat} {ty : TypeId} {pos : String} {after : Array Edge} {gd : Option (Nat × Bool)} :
    opW P ρ ⟨dst, .call ⟨.invoke r m, args, ts⟩, ty, pos, after, gd⟩ σ K = invokeW P (ρ r) m (args.toList.map ρ) σ K := by
  simp only [opW, callW, invokeW]
  cases ρ r <;> rfl
theorem invoke_iface {t : TypeId} {v : AV} {m : String} {ws : List AV} {f : FuncId} (h : methodIs P t m f) (hK : TCalls P f (v :: ws) σ K) : invokeW P (.iface t v) m ws σ K := ⟨f, h, hK⟩
end
theorem mm_max {k : IntKind} {a b : Int} {KV : AV → Prop} : mmW true [.int k a, .int k b] KV = KV (.int k (max a b)) := by simp [mmW]
theorem ni_int {k : IntKind} : (∃ d, some (TypeDesc.int k) = some d ∧ ∀ ms, ¬ d = TypeDesc.interface ms) = True := eq_true ⟨_, rfl, fun _ h => nomatch h⟩
theorem ni_struct {fs : Array Field} : (∃ d, some (TypeDesc.struct fs) = some d ∧ ∀ ms, ¬ d = TypeDesc.interface ms) = True := eq_true ⟨_, rfl, fun _ h => nomatch h⟩
theorem ni_slice {t : TypeId} : (∃ d, some (TypeDesc.slice t) = some d ∧ ∀ ms, ¬ d = TypeDesc.interface ms) = True := eq_true ⟨_, rfl, fun _ h => nomatch h⟩
attribute [go_sem ↓] op_invoke
attribute [go_sem] ni_int ni_struct ni_slice
attribute [go_sem] mm_max
end Go.Aff

namespace Go.Aff.L10
open Go.Proofs Go.Aff Go.Aff.L01 Classical
set_option maxRecDepth 20000
attribute [local go_sem] push_app app_app length_app cellAt_app cellAt_app0 set_app set_app0 objs_app objs_app0 List.cons_append List.nil_append List.length_cons List.length_nil List.getElem?_cons_zero List.getElem?_cons_succ List.set_cons_zero List.set_cons_succ List.length_map
attribute [-go_sem] cellAt_new
attribute [-simp] List.length_flatMap
attribute [local go_sem] Try.underlying9
attribute [local go_sem] fits3
attribute [local go_sem ↓] blockQ_exit2
structure Shp where
  kind : Int
  size : Int
def shp0 : Shp := ⟨0, 0⟩
def shpPs (x : Shp) : List AV := [.int .i64 x.kind, .int .i64 x.size]
abbrev shpV (x : Shp) : AV := .agg (shpPs x)
theorem shpPs_0 {x : Shp} : (shpPs x)[0]? = some (.int .i64 x.kind) := nr rfl
theorem shpAt_0 {x : Shp} {v : AV} : partIs Try.prog 58 (shpPs x) 0 v = fits Try.prog 3 v := by rw [partIs_of (o := 0) (T := 3) (by kernel_rfl)]; simp [shpPs, AV.sizes, AV.size]
theorem shpSet_0 {x : Shp} {y : Int} : (shpPs x).set 0 (.int .i64 y) = shpPs { x with kind := y } := nr rfl
theorem shpPs_1 {x : Shp} : (shpPs x)[1]? = some (.int .i64 x.size) := nr rfl
theorem shpAt_1 {x : Shp} {v : AV} : partIs Try.prog 58 (shpPs x) 1 v = fits Try.prog 3 v := by rw [partIs_of (o := 1) (T := 3) (by kernel_rfl)]; simp [shpPs, AV.sizes, AV.size]
theorem shpSet_1 {x : Shp} {y : Int} : (shpPs x).set 1 (.int .i64 y) = shpPs { x with size := y } := nr rfl
theorem sizes_shp {x : Shp} : AV.sizes (shpPs x) = 2 := by simp [shpPs, AV.sizes, AV.size]
theorem shapes_shp {x : Shp} : AV.shapes (shpPs x) = [.leaf, .leaf] := by simp [shpPs, AV.shapes, AV.shape]
theorem fits_shp {v : AV} : fits Try.prog 58 v = (v.isAgg = true ∧ v.size = 2) := fits_agg (by kernel_rfl) (by kernel_rfl)
theorem zero_shp : zeroA Try.prog 12 58 = .agg (shpPs shp0) := by kernel_rfl
theorem zt_shp : ZeroOf Try.prog 58 (.agg (shpPs shp0)) = True := eq_true ⟨_, _, rfl, rfl, rfl, rfl, rfl⟩
theorem built_shp : Built Try.prog 58 = True := eq_true (by unfold Built; rw [Try.underlying58]; decide +kernel)
/-ATTR shpPs_0 shpAt_0 shpSet_0 shpPs_1 shpAt_1 shpSet_1 sizes_shp shapes_shp fits_shp zero_shp zt_shp built_shp Try.underlying58 -/
attribute [local go_sem] Try.underlying58 Try.underlying135 Try.underlying136 Try.underlying138 Try.underlying139
abbrev Rng (n : Int) : Prop := -9223372036854775808 ≤ n ∧ n ≤ 9223372036854775807
inductive Part where
  | num (n : Int)
  | txt (n : Int)
  | sgn
  | lst (tk : Tk) (l : List Int)
def partV : Part → AV
  | .num n => .iface 135 (.int .i64 n)
  | .txt n => .iface 136 (.int .i64 n)
  | .sgn => .iface 138 (.agg [])
  | .lst tk l => .iface 139 (.slice tk (l.map (AV.int .i64)))
def nlen (n : Int) : Nat := (numS n).length
def tlen (n : Int) : Nat := nlen (max n 0) + (max n 0).toNat
def llen (l : List Int) : Nat := (l.map nlen).sum
def Part.len : Part → Nat
  | .num n => nlen n
  | .txt n => tlen n
  | .sgn => 35
  | .lst _ l => 2 + llen l
def Part.Ok : Part → Prop
  | .num n => Rng n
  | .txt n => n ≤ 4398046511104
  | .sgn => True
  | .lst _ l => l.length ≤ 10000 ∧ ∀ n ∈ l, Rng n
theorem nlen_le {n : Int} (h : Rng n) : nlen n ≤ 22 := numS_len h.1 h.2
theorem llen_take {l : List Int} (h : ∀ n ∈ l, Rng n) : llen l ≤ 22 * l.length := by
  induction l with
  | nil => simp [llen]
  | cons a l ih =>
    have h1 := nlen_le (h a (List.mem_cons_self ..))
    have h2 := ih fun n hn => h n (List.mem_cons_of_mem _ hn)
    simp only [llen, List.map_cons, List.sum_cons, List.length_cons] at h2 ⊢
    omega
theorem num_size {n : Int} (h : Rng n) {σ : AST} {K : AV → AST → Prop} (hK : K (.int .i64 (nlen n)) σ) : TCalls Try.prog 97 [.int .i64 n] σ K := by
  refine tcalls_walk Try.f97 _ [.tmp 2] Try.func97 rfl rfl rfl mixed (Nat.le_of_ble_eq_true rfl) rfl fun hlen => ?_
  repeat' (first | (simp -dsimp only [↓reduceIte, go_sem]) | (refine arr_intro fun _ => ?_) | (refine later_intro ⟨keeps_nil, ?_⟩) | (refine later_intro ⟨keeps_refl, ?_⟩) | (with_reducible refine keeps_go ?_ ?_; focus (first | (simp [keeps_cons, keeps_none, objs_app, objs_app0]; done) | (simp only [keeps_cons, keeps_none, objs_app0, objs_app, and_true]; first | rfl | exact ⟨rfl, rfl⟩ | exact ⟨rfl, rfl, rfl⟩))) | (with_reducible refine (And.intro (a := keeps _ _ _) ?_ ?_); focus (first | (simp [keeps_cons, keeps_none, objs_app, objs_app0]; done) | (simp only [keeps_cons, keeps_none, objs_app0, objs_app, and_true]; first | rfl | exact ⟨rfl, rfl⟩ | exact ⟨rfl, rfl, rfl⟩))) | (refine both_ways ?_ ?_) | (rw [wrap_i64 (by omega) (by omega)]) | (refine guardV_split (fun h => ?_) (fun h => ?_) <;> (try rw [h]) <;> (try simp at h) <;> (try (exfalso; omega))) | (refine L01.number_c h.1 h.2 ?_))
  exact hK
theorem txt_size {n : Int} (h : n ≤ 4398046511104) {σ : AST} {K : AV → AST → Prop} (hK : K (.int .i64 (tlen n)) σ) : TCalls Try.prog 138 [.int .i64 n] σ K := by
  have hr : Rng (max n 0) := ⟨by omega, by omega⟩
  have hl := nlen_le hr
  have e : ((tlen n : Nat) : Int) = (nlen (max n 0) : Nat) + max n 0 := by unfold tlen; omega
  have w : IntKind.i64.wrap (((numS (max n 0)).length : Nat) + max n 0) = (tlen n : Nat) := by
    rw [e]; exact wrap_i64 (by unfold nlen at hl; omega) (by unfold nlen at hl; omega)
  refine tcalls_walk Try.f138 _ [.tmp 2] Try.func138 rfl rfl rfl mixed (Nat.le_of_ble_eq_true rfl) rfl fun hlen => ?_
  repeat' (first | (simp -dsimp only [↓reduceIte, go_sem, w]) | (refine arr_intro fun _ => ?_) | (refine later_intro ⟨keeps_nil, ?_⟩) | (refine later_intro ⟨keeps_refl, ?_⟩) | (with_reducible refine keeps_go ?_ ?_; focus (first | (simp [keeps_cons, keeps_none, objs_app, objs_app0]; done) | (simp only [keeps_cons, keeps_none, objs_app0, objs_app, and_true]; first | rfl | exact ⟨rfl, rfl⟩ | exact ⟨rfl, rfl, rfl⟩))) | (with_reducible refine (And.intro (a := keeps _ _ _) ?_ ?_); focus (first | (simp [keeps_cons, keeps_none, objs_app, objs_app0]; done) | (simp only [keeps_cons, keeps_none, objs_app0, objs_app, and_true]; first | rfl | exact ⟨rfl, rfl⟩ | exact ⟨rfl, rfl, rfl⟩))) | (refine both_ways ?_ ?_) | (rw [wrap_i64 (by omega) (by omega)]) | (refine guardV_split (fun h => ?_) (fun h => ?_) <;> (try rw [h]) <;> (try simp at h) <;> (try (exfalso; omega))) | (refine L01.number_c hr.1 hr.2 ?_))
  exact hK
theorem zero138 : zeroA Try.prog 12 138 = .agg [] := by kernel_rfl
theorem zt138 : ZeroOf Try.prog 138 (.agg []) = True := eq_true ⟨_, _, rfl, rfl, rfl, rfl, rfl⟩
theorem built138 : Built Try.prog 138 = True := eq_true (by unfold Built; rw [Try.underlying138]; decide +kernel)
theorem tlen32 : tlen 32 = 35 := by
  have e : numS 32 = [51, 50, 59] := by
    rw [numS, if_neg (by decide)]
    rw [show (32 : Int).natAbs = 32 from rfl, dg, if_neg (by decide), dg_small (by decide)]
    rfl
  show (numS 32).length + 32 = 35
  rw [e]; rfl
theorem sgn_size {σ : AST} {K : AV → AST → Prop} (hK : K (.int .i64 35) σ) : TCalls Try.prog 139 [.agg []] σ K := by
  refine TCalls.drop ?_
  refine tcalls_walk Try.f139 _ [.tmp 2] Try.func139 rfl rfl rfl mixed (Nat.le_of_ble_eq_true rfl) rfl fun hlen => ?_
  repeat' (first | (simp -dsimp only [↓reduceIte, go_sem, tlen32]) | (refine arr_intro fun _ => ?_) | (refine later_intro ⟨keeps_nil, ?_⟩) | (refine later_intro ⟨keeps_refl, ?_⟩) | (with_reducible refine keeps_go ?_ ?_; focus (first | (simp [keeps_cons, keeps_none, objs_app, objs_app0]; done) | (simp only [keeps_cons, keeps_none, objs_app0, objs_app, and_true]; first | rfl | exact ⟨rfl, rfl⟩ | exact ⟨rfl, rfl, rfl⟩))) | (with_reducible refine (And.intro (a := keeps _ _ _) ?_ ?_); focus (first | (simp [keeps_cons, keeps_none, objs_app, objs_app0]; done) | (simp only [keeps_cons, keeps_none, objs_app0, objs_app, and_true]; first | rfl | exact ⟨rfl, rfl⟩ | exact ⟨rfl, rfl, rfl⟩))) | (refine both_ways ?_ ?_) | (rw [wrap_i64 (by omega) (by omega)]) | (refine guardV_split (fun h => ?_) (fun h => ?_) <;> (try rw [h]) <;> (try simp at h) <;> (try (exfalso; omega))) | (refine txt_size (by decide) ?_))
  exact ⟨Ext.app _ _, rfl, by simpa [AV.strip] using hK⟩
theorem lst_size {l : List Int} {tk : Tk} (hl : l.length ≤ 10000) (h : ∀ n ∈ l, Rng n) {σ : AST} {K : AV → AST → Prop} (hK : K (.int .i64 ((2 + llen l : Nat) : Int)) σ) : TCalls Try.prog 140 [.slice tk (l.map (AV.int .i64))] σ K := by
  refine tcalls_walk Try.f140 _ [.tmp 2] Try.func140 rfl rfl rfl mixed (Nat.le_of_ble_eq_true rfl) rfl fun hlen => ?_
  repeat' (first | (simp -dsimp only [↓reduceIte, go_sem]) | (refine arr_intro fun _ => ?_) | (refine later_intro ⟨keeps_nil, ?_⟩) | (refine later_intro ⟨keeps_refl, ?_⟩) | (with_reducible refine keeps_go ?_ ?_; focus (first | (simp [keeps_cons, keeps_none, objs_app, objs_app0]; done) | (simp only [keeps_cons, keeps_none, objs_app0, objs_app, and_true]; first | rfl | exact ⟨rfl, rfl⟩ | exact ⟨rfl, rfl, rfl⟩))) | (with_reducible refine (And.intro (a := keeps _ _ _) ?_ ?_); focus (first | (simp [keeps_cons, keeps_none, objs_app, objs_app0]; done) | (simp only [keeps_cons, keeps_none, objs_app0, objs_app, and_true]; first | rfl | exact ⟨rfl, rfl⟩ | exact ⟨rfl, rfl, rfl⟩))) | (refine both_ways ?_ ?_) | (rw [wrap_i64 (by omega) (by omega)]) | (refine guardV_split (fun h => ?_) (fun h => ?_) <;> (try rw [h]) <;> (try simp at h) <;> (try (exfalso; omega))))
  refine awp_rounds (fun (i : Nat) τ s' => s' = σ ∧ i ≤ l.length ∧ τ 3 = .int .i64 ((2 + llen (l.take i) : Nat) : Int) ∧ τ 6 = .slice tk (l.map (AV.int .i64)) ∧ τ 7 = .int .i64 l.length ∧ τ 8 = .int .i64 i) (fun i => l.length - i) 0 ?_ ?_
  · refine ⟨rfl, by omega, ?_, ?_, ?_, ?_⟩ <;> (try simp only [go_sem]) <;> (try rfl)
  · rintro i τ s' ⟨rfl, hi, t3, t6, t7, t8⟩
    by_cases hlt : i < l.length
    · have hlt1 : (i : Int) < l.length := by omega
      have hx : l[i]? = some l[i] := List.getElem?_eq_getElem hlt
      have hr := h _ (List.getElem_mem hlt)
      have e : l.take (i + 1) = l.take i ++ [l[i]] := (List.take_append_getElem hlt).symm
      generalize l[i] = x at hx hr e
      have hn := nlen_le hr
      have hs := llen_take (l := l.take i) fun n hn => h n (List.mem_of_mem_take hn)
      rw [List.length_take] at hs
      have e2 : llen (l.take (i + 1)) = llen (l.take i) + nlen x := by rw [e]; simp [llen]
      have w1 : IntKind.i64.wrap ((i : Int) + 1) = (i : Int) + 1 := wrap_i64 (by omega) (by omega)
      have w2 : IntKind.i64.wrap (((2 + llen (l.take i) : Nat) : Int) + (nlen x : Nat)) = ((2 + llen (l.take (i + 1)) : Nat) : Int) := by rw [wrap_i64 (by omega) (by omega), e2]; omega
      repeat' (first | (simp -dsimp only [↓reduceIte, go_sem, t3, t6, t7, t8, hlt1, w1, w2]) | (refine arr_intro fun _ => ?_) | (refine later_intro ⟨keeps_nil, ?_⟩) | (refine later_intro ⟨keeps_refl, ?_⟩) | (with_reducible refine keeps_go ?_ ?_; focus (first | (simp [keeps_cons, keeps_none, objs_app, objs_app0]; done) | (simp only [keeps_cons, keeps_none, objs_app0, objs_app, and_true]; first | rfl | exact ⟨rfl, rfl⟩ | exact ⟨rfl, rfl, rfl⟩))) | (with_reducible refine (And.intro (a := keeps _ _ _) ?_ ?_); focus (first | (simp [keeps_cons, keeps_none, objs_app, objs_app0]; done) | (simp only [keeps_cons, keeps_none, objs_app0, objs_app, and_true]; first | rfl | exact ⟨rfl, rfl⟩ | exact ⟨rfl, rfl, rfl⟩))) | (refine both_ways ?_ ?_) | (rw [wrap_i64 (by omega) (by omega)]) | (refine guardV_split (fun h => ?_) (fun h => ?_) <;> (try rw [h]) <;> (try simp at h) <;> (try (exfalso; omega))) | (refine nth_get hx ?_) | (refine num_size hr ?_))
      refine later_intro ⟨i + 1, by omega, rfl, by omega, ?_, ?_, ?_, ?_⟩ <;> (try simp only [go_sem, t3, t6, t7, t8]) <;> (try rfl)
    · obtain rfl : i = l.length := by omega
      have hlt1 : ¬ ((l.length : Nat) : Int) < l.length := by omega
      rw [List.take_length] at t3
      repeat' (first | (simp -dsimp only [↓reduceIte, go_sem, t3, t6, t7, t8, hlt1]) | (refine arr_intro fun _ => ?_) | (refine later_intro ⟨keeps_nil, ?_⟩) | (refine later_intro ⟨keeps_refl, ?_⟩) | (with_reducible refine keeps_go ?_ ?_; focus (first | (simp [keeps_cons, keeps_none, objs_app, objs_app0]; done) | (simp only [keeps_cons, keeps_none, objs_app0, objs_app, and_true]; first | rfl | exact ⟨rfl, rfl⟩ | exact ⟨rfl, rfl, rfl⟩))) | (with_reducible refine (And.intro (a := keeps _ _ _) ?_ ?_); focus (first | (simp [keeps_cons, keeps_none, objs_app, objs_app0]; done) | (simp only [keeps_cons, keeps_none, objs_app0, objs_app, and_true]; first | rfl | exact ⟨rfl, rfl⟩ | exact ⟨rfl, rfl, rfl⟩))) | (refine both_ways ?_ ?_) | (rw [wrap_i64 (by omega) (by omega)]) | (refine guardV_split (fun h => ?_) (fun h => ?_) <;> (try rw [h]) <;> (try simp at h) <;> (try (exfalso; omega))))
      exact hK
theorem part_size {p : Part} (h : p.Ok) {σ : AST} {K : AV → AST → Prop} (hK : K (.int .i64 (p.len : Nat)) σ) : invokeW Try.prog (partV p) "affidavit/shape.size" [] σ K := by
  cases p with
  | num n => exact invoke_iface (f := 97) (by refine ⟨⟨_, _, rfl, rfl, rfl, rfl⟩, _, Try.underlying135, by intro e h; cases h⟩) (num_size h hK)
  | txt n => exact invoke_iface (f := 138) (by refine ⟨⟨_, _, rfl, rfl, rfl, rfl⟩, _, Try.underlying136, by intro e h; cases h⟩) (txt_size h hK)
  | sgn => exact invoke_iface (f := 139) (by refine ⟨⟨_, _, rfl, rfl, rfl, rfl⟩, _, Try.underlying138, by intro e h; cases h⟩) (sgn_size hK)
  | lst tk l => exact invoke_iface (f := 140) (by refine ⟨⟨_, _, rfl, rfl, rfl, rfl⟩, _, Try.underlying139, by intro e h; cases h⟩) (lst_size h.1 h.2 hK)
attribute [local go_sem] zt3 zero3
attribute [local go_sem] shpPs_0 shpAt_0 shpSet_0 shpPs_1 shpAt_1 shpSet_1 sizes_shp shapes_shp fits_shp zero_shp zt_shp built_shp Try.underlying164
theorem size_part {p : Part} : (partV p).size = 1 := by cases p <;> rfl
theorem agg_part {p : Part} : (partV p).isAgg = false := by cases p <;> rfl
theorem known_part {p : Part} : (partV p).known = true := by cases p <;> rfl
theorem fits167 {v : AV} : fits Try.prog 167 v = (v.isAgg = false ∧ v.size = 1) := fits_leaf (by kernel_rfl) (by kernel_rfl)
theorem zt167 : ZeroOf Try.prog 167 .nilIface = True := eq_true ⟨_, _, rfl, rfl, rfl, rfl, rfl⟩
theorem E164 : ElemT Try.prog 164 167 1 16 := ⟨rfl, by kernel_rfl, by kernel_rfl, ⟨_, of_eq_true zt167⟩, by decide⟩
attribute [local go_sem] size_part agg_part known_part fits167
theorem Part.len_le {p : Part} (h : p.Ok) : p.len ≤ 4398046600000 := by
  cases p with
  | num n => have := nlen_le h; simp only [Part.len]; omega
  | txt n =>
    have h' : n ≤ 4398046511104 := h
    have := nlen_le (n := max n 0) ⟨by omega, by omega⟩
    simp only [Part.len, tlen]; omega
  | sgn => simp [Part.len]
  | lst tk l => have := llen_take h.2; have := h.1; simp only [Part.len]; omega
theorem add_c {p : Part} (h : p.Ok) {j : Nat} {n : Nat} {s : AST} (hj : s.objs[j]? = some (.cells (.int .i64 n))) (hn : n ≤ 9000000000000000) {K : AV → AST → Prop}
    (hK : K (.tuple []) (s.set j (.cells (.int .i64 ((n + p.len : Nat) : Int))))) : TCalls Try.prog 98 [partV p, .ptr (some (j, []))] s K := by
  have cj := cellAt_known hj
  have hl := Part.len_le h
  have w : IntKind.i64.wrap ((n : Int) + (p.len : Nat)) = ((n + p.len : Nat) : Int) := by rw [wrap_i64 (by omega) (by omega)]; omega
  refine tcalls_walk Try.f98 _ [] Try.func98 rfl rfl rfl mixed (Nat.le_of_ble_eq_true rfl) rfl fun hlen => ?_
  repeat' (first | (simp -dsimp only [↓reduceIte, go_sem, cj, hj, w]) | (refine arr_intro fun _ => ?_) | (refine later_intro ⟨keeps_nil, ?_⟩) | (refine later_intro ⟨keeps_refl, ?_⟩) | (with_reducible refine keeps_go ?_ ?_; focus (first | (simp [keeps_cons, keeps_none, objs_app, objs_app0]; done) | (simp only [keeps_cons, keeps_none, objs_app0, objs_app, and_true]; first | rfl | exact ⟨rfl, rfl⟩ | exact ⟨rfl, rfl, rfl⟩))) | (with_reducible refine (And.intro (a := keeps _ _ _) ?_ ?_); focus (first | (simp [keeps_cons, keeps_none, objs_app, objs_app0]; done) | (simp only [keeps_cons, keeps_none, objs_app0, objs_app, and_true]; first | rfl | exact ⟨rfl, rfl⟩ | exact ⟨rfl, rfl, rfl⟩))) | (refine both_ways ?_ ?_) | (rw [wrap_i64 (by omega) (by omega)]) | (refine guardV_split (fun h => ?_) (fun h => ?_) <;> (try rw [h]) <;> (try simp at h) <;> (try (exfalso; omega))) | (with_reducible refine awp_drawU (id := 0) (.op 0 0 (.op 1 2 (.op 2 1 (.cut (.op 3 2 (.op 4 1 .nil)))))) (by kernel_rfl) ?_) | (refine part_size h ?_))
  all_goals exact hK
def lens (ps : List Part) : Nat := (ps.map Part.len).sum
theorem lens_le {ps : List Part} (h : ∀ p ∈ ps, p.Ok) : lens ps ≤ 4398046600000 * ps.length := by
  induction ps with
  | nil => simp [lens]
  | cons p ps ih =>
    have h1 := Part.len_le (h p (List.mem_cons_self ..))
    have h2 := ih fun q hq => h q (List.mem_cons_of_mem _ hq)
    simp only [lens, List.map_cons, List.sum_cons, List.length_cons] at h2 ⊢
    omega
theorem shape_c {k : Int} (hk : Rng k) {ps : List Part} (hp : ∀ p ∈ ps, p.Ok) (hl : ps.length ≤ 100) {tk : Tk} {σ : AST} {K : AV → AST → Prop}
    (hK : K (.agg (shpPs ⟨k, ((nlen k + lens ps : Nat) : Int)⟩)) σ) : TCalls Try.prog 73 [.int .i64 k, .slice tk (ps.map partV)] σ K := by
  refine TCalls.drop ?_
  have hn := nlen_le hk
  refine tcalls_walk Try.f73 _ [.cell 4 58] Try.func73 rfl rfl rfl mixed (Nat.le_of_ble_eq_true rfl) rfl fun hlen => ?_
  repeat' (first | (simp -dsimp only [↓reduceIte, go_sem]) | (refine arr_intro fun _ => ?_) | (refine later_intro ⟨keeps_nil, ?_⟩) | (refine later_intro ⟨keeps_refl, ?_⟩) | (with_reducible refine keeps_go ?_ ?_; focus (first | (simp [keeps_cons, keeps_none, objs_app, objs_app0]; done) | (simp only [keeps_cons, keeps_none, objs_app0, objs_app, and_true]; first | rfl | exact ⟨rfl, rfl⟩ | exact ⟨rfl, rfl, rfl⟩))) | (with_reducible refine (And.intro (a := keeps _ _ _) ?_ ?_); focus (first | (simp [keeps_cons, keeps_none, objs_app, objs_app0]; done) | (simp only [keeps_cons, keeps_none, objs_app0, objs_app, and_true]; first | rfl | exact ⟨rfl, rfl⟩ | exact ⟨rfl, rfl, rfl⟩))) | (refine both_ways ?_ ?_) | (rw [wrap_i64 (by omega) (by omega)]) | (refine guardV_split (fun h => ?_) (fun h => ?_) <;> (try rw [h]) <;> (try simp at h) <;> (try (exfalso; omega))) | (refine num_size hk ?_))
  refine ⟨fun x hx => ?_, later_intro ?_⟩
  · simp only [List.mem_cons, List.mem_append, List.not_mem_nil, or_false, false_or] at hx
    rcases hx with rfl
    simp only [go_sem] <;> rfl
  repeat' (first | (simp -dsimp only [↓reduceIte, go_sem]) | (refine arr_intro fun _ => ?_) | (refine later_intro ⟨keeps_nil, ?_⟩) | (refine later_intro ⟨keeps_refl, ?_⟩) | (with_reducible refine keeps_go ?_ ?_; focus (first | (simp [keeps_cons, keeps_none, objs_app, objs_app0]; done) | (simp only [keeps_cons, keeps_none, objs_app0, objs_app, and_true]; first | rfl | exact ⟨rfl, rfl⟩ | exact ⟨rfl, rfl, rfl⟩))) | (with_reducible refine (And.intro (a := keeps _ _ _) ?_ ?_); focus (first | (simp [keeps_cons, keeps_none, objs_app, objs_app0]; done) | (simp only [keeps_cons, keeps_none, objs_app0, objs_app, and_true]; first | rfl | exact ⟨rfl, rfl⟩ | exact ⟨rfl, rfl, rfl⟩))) | (refine both_ways ?_ ?_) | (rw [wrap_i64 (by omega) (by omega)]) | (refine guardV_split (fun h => ?_) (fun h => ?_) <;> (try rw [h]) <;> (try simp at h) <;> (try (exfalso; omega))))
  refine awp_rounds (fun (i : Nat) τ s' => i ≤ ps.length ∧ Ext σ s' ∧ s'.objs[σ.objs.length]? = some (.cells (.agg (shpPs shp0))) ∧ s'.objs[σ.objs.length + 1]? = some (.cells (.int .i64 ((nlen k + lens (ps.take i) : Nat) : Int))) ∧
    τ 0 = .int .i64 k ∧ τ 4 = .ptr (some (σ.objs.length, [])) ∧ τ 5 = .ptr (some (σ.objs.length + 1, [])) ∧ τ 6 = .fn (.func 98) [] [.ptr (some (σ.objs.length + 1, []))] ∧ τ 12 = .slice tk (ps.map partV) ∧ τ 13 = .int .i64 ps.length ∧ τ 14 = .int .i64 i) (fun i => ps.length - i) 0 ?_ ?_
  · refine ⟨by omega, Ext.app _ _, objs_app0, ?_, ?_, ?_, ?_, ?_, ?_, ?_, ?_⟩ <;> (try simp only [go_sem]) <;> (try rfl)
  · rintro i τ s' ⟨hi, hx, o0, o1, t0, t4, t5, t6, t12, t13, t14⟩
    have hs := fun j => lens_le (ps := ps.take j) (fun p h => hp p (List.mem_of_mem_take h))
    by_cases hlt : i < ps.length
    · have hlt1 : (i : Int) < ps.length := by omega
      have hpi : ps[i]? = some ps[i] := List.getElem?_eq_getElem hlt
      have hok := hp _ (List.getElem_mem hlt)
      have e : ps.take (i + 1) = ps.take i ++ [ps[i]] := (List.take_append_getElem hlt).symm
      generalize ps[i] = p at hpi hok e
      have e2 : nlen k + lens (ps.take (i + 1)) = nlen k + lens (ps.take i) + p.len := by rw [e]; simp [lens]; omega
      have w1 : IntKind.i64.wrap ((i : Int) + 1) = (i : Int) + 1 := wrap_i64 (by omega) (by omega)
      have h1 := hs i
      rw [List.length_take] at h1
      repeat' (first | (simp -dsimp only [↓reduceIte, go_sem, t0, t4, t5, t6, t12, t13, t14, hlt1]) | (refine arr_intro fun _ => ?_) | (refine later_intro ⟨keeps_nil, ?_⟩) | (refine later_intro ⟨keeps_refl, ?_⟩) | (with_reducible refine keeps_go ?_ ?_; focus (first | (simp [keeps_cons, keeps_none, objs_app, objs_app0]; done) | (simp only [keeps_cons, keeps_none, objs_app0, objs_app, and_true]; first | rfl | exact ⟨rfl, rfl⟩ | exact ⟨rfl, rfl, rfl⟩))) | (with_reducible refine (And.intro (a := keeps _ _ _) ?_ ?_); focus (first | (simp [keeps_cons, keeps_none, objs_app, objs_app0]; done) | (simp only [keeps_cons, keeps_none, objs_app0, objs_app, and_true]; first | rfl | exact ⟨rfl, rfl⟩ | exact ⟨rfl, rfl, rfl⟩))) | (refine both_ways ?_ ?_) | (rw [wrap_i64 (by omega) (by omega)]) | (refine guardV_split (fun h => ?_) (fun h => ?_) <;> (try rw [h]) <;> (try simp at h) <;> (try (exfalso; omega))) | (refine nth_get hpi ?_))
      refine add_c hok o1 (by omega) ?_
      have l0 : σ.objs.length < s'.objs.length := (List.getElem?_eq_some_iff.1 o0).1
      have l1 : σ.objs.length + 1 < s'.objs.length := (List.getElem?_eq_some_iff.1 o1).1
      repeat' (first | (simp -dsimp only [↓reduceIte, go_sem, t0, t4, t5, t6, t12, t13, t14, w1]) | (refine arr_intro fun _ => ?_) | (refine later_intro ⟨keeps_nil, ?_⟩) | (refine later_intro ⟨keeps_refl, ?_⟩) | (with_reducible refine keeps_go ?_ ?_; focus (first | (simp [keeps_cons, keeps_none, objs_app, objs_app0]; done) | (simp only [keeps_cons, keeps_none, objs_app0, objs_app, and_true]; first | rfl | exact ⟨rfl, rfl⟩ | exact ⟨rfl, rfl, rfl⟩))) | (with_reducible refine (And.intro (a := keeps _ _ _) ?_ ?_); focus (first | (simp [keeps_cons, keeps_none, objs_app, objs_app0]; done) | (simp only [keeps_cons, keeps_none, objs_app0, objs_app, and_true]; first | rfl | exact ⟨rfl, rfl⟩ | exact ⟨rfl, rfl, rfl⟩))) | (refine both_ways ?_ ?_) | (rw [wrap_i64 (by omega) (by omega)]) | (refine guardV_split (fun h => ?_) (fun h => ?_) <;> (try rw [h]) <;> (try simp at h) <;> (try (exfalso; omega))))
      refine later_intro ⟨i + 1, by omega, by omega, hx.set (by omega), ?_, ?_, ?_, ?_, ?_, ?_, ?_, ?_, ?_⟩ <;> (try simp only [go_sem, t0, t4, t5, t6, t12, t13, t14]) <;> (try rfl)
      · simp only [AST.set]; rw [List.getElem?_set_ne (by omega)]; exact o0
      · simp only [AST.set]; rw [List.getElem?_set_self l1, e2]
    · obtain rfl : i = ps.length := by omega
      have hlt1 : ¬ ((ps.length : Nat) : Int) < ps.length := by omega
      rw [List.take_length] at o1
      have c0 := cellAt_known o0
      have c1 := cellAt_known o1
      have l0 : σ.objs.length < s'.objs.length := (List.getElem?_eq_some_iff.1 o0).1
      have g : ∀ v q, cellAt (s'.set σ.objs.length (.cells v)) σ.objs.length q = v.at q := fun v q => cellAt_known (by simp only [AST.set]; rw [List.getElem?_set_self l0]) q
      repeat' (first | (simp -dsimp only [↓reduceIte, go_sem, t0, t4, t5, t6, t12, t13, t14, hlt1, c0, c1, o0, g]) | (refine arr_intro fun _ => ?_) | (refine later_intro ⟨keeps_nil, ?_⟩) | (refine later_intro ⟨keeps_refl, ?_⟩) | (with_reducible refine keeps_go ?_ ?_; focus (first | (simp [keeps_cons, keeps_none, objs_app, objs_app0]; done) | (simp only [keeps_cons, keeps_none, objs_app0, objs_app, and_true]; first | rfl | exact ⟨rfl, rfl⟩ | exact ⟨rfl, rfl, rfl⟩))) | (with_reducible refine (And.intro (a := keeps _ _ _) ?_ ?_); focus (first | (simp [keeps_cons, keeps_none, objs_app, objs_app0]; done) | (simp only [keeps_cons, keeps_none, objs_app0, objs_app, and_true]; first | rfl | exact ⟨rfl, rfl⟩ | exact ⟨rfl, rfl, rfl⟩))) | (refine both_ways ?_ ?_) | (rw [wrap_i64 (by omega) (by omega)]) | (refine guardV_split (fun h => ?_) (fun h => ?_) <;> (try rw [h]) <;> (try simp at h) <;> (try (exfalso; omega))))
      exact ⟨hx.set (by omega), by simp [AV.noRef, AV.noRefs, shpPs], by simpa [AV.strip, AV.strips, shpPs] using hK⟩
theorem build_parts {ps : List Part} {n : Nat} {fs : List (Nat × AV)} {KV : AV → Prop} (h1 : fs.map (·.1) = List.range n) (h2 : fs.map (·.2) = ps.map partV) (hl : n ≤ 100) (h : KV (.slice .full (ps.map partV))) : buildSliceW Try.prog 164 n fs KV :=
  build_slice E164 h1 (by omega) (by rw [h2]; intro v hv; obtain ⟨x, _, rfl⟩ := List.mem_map.1 hv; simp [go_sem]) (by rw [h2]; exact h)
attribute [local go_sem] subPs_0 subAt_0 subPs_1 subAt_1 subPs_2 subAt_2 Try.underlying67
attribute [local go_sem] Try.underlying135 Try.underlying136 Try.underlying138 Try.underlying139 zero138 zt138 built138
def shpOf (k : Int) (ps : List Part) : Shp := ⟨k, ((nlen k + lens ps : Nat) : Int)⟩
section
variable {σ : AST} {K : AV → AST → Prop}
theorem put31_c {o n c : Int} (ho : Rng o) (hn : Rng n) (hc : c ≤ 4398046511104) (hK : K (.agg (shpPs (shpOf 4 [.num o, .num n, .txt c, .sgn]))) σ) : TCalls Try.prog 27 [.int .i64 o, .int .i64 n, .int .i64 c] σ K := by
  refine TCalls.drop ?_
  have g : ∀ v w p, cellAt ((σ.app [.cells v]).set σ.objs.length (.cells w)) σ.objs.length p = w.at p := fun v w p => cellAt_known (by simp [AST.set, AST.app]) p
  have fin : ∀ s' x, Ext σ s' → K (.agg (shpPs x)) σ → Ext σ s' ∧ (AV.agg (shpPs x)).noRef = true ∧ K (AV.agg (shpPs x)).strip σ := fun s' x hx h => ⟨hx, by simp [AV.noRef, AV.noRefs, shpPs], by simpa [AV.strip, AV.strips, shpPs] using h⟩
  refine tcalls_walk Try.f27 _ [.cell 6 58] Try.func27 rfl rfl rfl mixed (Nat.le_of_ble_eq_true rfl) rfl fun hlen => ?_
  repeat' (first | (simp -dsimp only [↓reduceIte, go_sem, g]) | (refine arr_intro fun _ => ?_) | (refine later_intro ⟨keeps_nil, ?_⟩) | (refine later_intro ⟨keeps_refl, ?_⟩) | (with_reducible refine keeps_go ?_ ?_; focus (first | (simp [keeps_cons, keeps_none, objs_app, objs_app0]; done) | (simp only [keeps_cons, keeps_none, objs_app0, objs_app, and_true]; first | rfl | exact ⟨rfl, rfl⟩ | exact ⟨rfl, rfl, rfl⟩))) | (with_reducible refine (And.intro (a := keeps _ _ _) ?_ ?_); focus (first | (simp [keeps_cons, keeps_none, objs_app, objs_app0]; done) | (simp only [keeps_cons, keeps_none, objs_app0, objs_app, and_true]; first | rfl | exact ⟨rfl, rfl⟩ | exact ⟨rfl, rfl, rfl⟩))) | (refine both_ways ?_ ?_) | (rw [wrap_i64 (by omega) (by omega)]) | (refine guardV_split (fun h => ?_) (fun h => ?_) <;> (try rw [h]) <;> (try simp at h) <;> (try (exfalso; omega))) | (refine build_parts (ps := [.num o, .num n, .txt c, .sgn]) rfl rfl (by decide) ?_) | (refine shape_c (ps := [.num o, .num n, .txt c, .sgn]) ⟨by decide, by decide⟩ (by intro p hp; simp only [List.mem_cons, List.not_mem_nil, or_false] at hp; rcases hp with rfl | rfl | rfl | rfl <;> first | exact trivial | assumption) (by simp) ?_))
  exact fin _ _ (Ext.app _ _) hK
theorem commit31_c {o c : Int} (ho : Rng o) (hc : c ≤ 4398046511104) (hK : K (.agg (shpPs (shpOf 3 [.num o, .txt c, .sgn]))) σ) : TCalls Try.prog 26 [.int .i64 o, .int .i64 c] σ K := by
  refine TCalls.drop ?_
  have g : ∀ v w p, cellAt ((σ.app [.cells v]).set σ.objs.length (.cells w)) σ.objs.length p = w.at p := fun v w p => cellAt_known (by simp [AST.set, AST.app]) p
  have fin : ∀ s' x, Ext σ s' → K (.agg (shpPs x)) σ → Ext σ s' ∧ (AV.agg (shpPs x)).noRef = true ∧ K (AV.agg (shpPs x)).strip σ := fun s' x hx h => ⟨hx, by simp [AV.noRef, AV.noRefs, shpPs], by simpa [AV.strip, AV.strips, shpPs] using h⟩
  refine tcalls_walk Try.f26 _ [.cell 4 58] Try.func26 rfl rfl rfl mixed (Nat.le_of_ble_eq_true rfl) rfl fun hlen => ?_
  repeat' (first | (simp -dsimp only [↓reduceIte, go_sem, g]) | (refine arr_intro fun _ => ?_) | (refine later_intro ⟨keeps_nil, ?_⟩) | (refine later_intro ⟨keeps_refl, ?_⟩) | (with_reducible refine keeps_go ?_ ?_; focus (first | (simp [keeps_cons, keeps_none, objs_app, objs_app0]; done) | (simp only [keeps_cons, keeps_none, objs_app0, objs_app, and_true]; first | rfl | exact ⟨rfl, rfl⟩ | exact ⟨rfl, rfl, rfl⟩))) | (with_reducible refine (And.intro (a := keeps _ _ _) ?_ ?_); focus (first | (simp [keeps_cons, keeps_none, objs_app, objs_app0]; done) | (simp only [keeps_cons, keeps_none, objs_app0, objs_app, and_true]; first | rfl | exact ⟨rfl, rfl⟩ | exact ⟨rfl, rfl, rfl⟩))) | (refine both_ways ?_ ?_) | (rw [wrap_i64 (by omega) (by omega)]) | (refine guardV_split (fun h => ?_) (fun h => ?_) <;> (try rw [h]) <;> (try simp at h) <;> (try (exfalso; omega))) | (refine build_parts (ps := [.num o, .txt c, .sgn]) rfl rfl (by decide) ?_) | (refine shape_c (ps := [.num o, .txt c, .sgn]) ⟨by decide, by decide⟩ (by intro p hp; simp only [List.mem_cons, List.not_mem_nil, or_false] at hp; rcases hp with rfl | rfl | rfl <;> first | exact trivial | assumption) (by simp) ?_))
  exact fin _ _ (Ext.app _ _) hK
theorem version31_c {o n c : Int} (ho : Rng o) (hn : Rng n) (hc : c ≤ 4398046511104) (hK : K (.agg (shpPs (shpOf 10 [.num o, .num n, .txt c, .sgn, .sgn]))) σ) : TCalls Try.prog 29 [.int .i64 o, .int .i64 n, .int .i64 c] σ K := by
  refine TCalls.drop ?_
  have g : ∀ v w p, cellAt ((σ.app [.cells v]).set σ.objs.length (.cells w)) σ.objs.length p = w.at p := fun v w p => cellAt_known (by simp [AST.set, AST.app]) p
  have fin : ∀ s' x, Ext σ s' → K (.agg (shpPs x)) σ → Ext σ s' ∧ (AV.agg (shpPs x)).noRef = true ∧ K (AV.agg (shpPs x)).strip σ := fun s' x hx h => ⟨hx, by simp [AV.noRef, AV.noRefs, shpPs], by simpa [AV.strip, AV.strips, shpPs] using h⟩
  refine tcalls_walk Try.f29 _ [.cell 6 58] Try.func29 rfl rfl rfl mixed (Nat.le_of_ble_eq_true rfl) rfl fun hlen => ?_
  repeat' (first | (simp -dsimp only [↓reduceIte, go_sem, g]) | (refine arr_intro fun _ => ?_) | (refine later_intro ⟨keeps_nil, ?_⟩) | (refine later_intro ⟨keeps_refl, ?_⟩) | (with_reducible refine keeps_go ?_ ?_; focus (first | (simp [keeps_cons, keeps_none, objs_app, objs_app0]; done) | (simp only [keeps_cons, keeps_none, objs_app0, objs_app, and_true]; first | rfl | exact ⟨rfl, rfl⟩ | exact ⟨rfl, rfl, rfl⟩))) | (with_reducible refine (And.intro (a := keeps _ _ _) ?_ ?_); focus (first | (simp [keeps_cons, keeps_none, objs_app, objs_app0]; done) | (simp only [keeps_cons, keeps_none, objs_app0, objs_app, and_true]; first | rfl | exact ⟨rfl, rfl⟩ | exact ⟨rfl, rfl, rfl⟩))) | (refine both_ways ?_ ?_) | (rw [wrap_i64 (by omega) (by omega)]) | (refine guardV_split (fun h => ?_) (fun h => ?_) <;> (try rw [h]) <;> (try simp at h) <;> (try (exfalso; omega))) | (refine build_parts (ps := [.num o, .num n, .txt c, .sgn, .sgn]) rfl rfl (by decide) ?_) | (refine shape_c (ps := [.num o, .num n, .txt c, .sgn, .sgn]) ⟨by decide, by decide⟩ (by intro p hp; simp only [List.mem_cons, List.not_mem_nil, or_false] at hp; rcases hp with rfl | rfl | rfl | rfl | rfl <;> first | exact trivial | assumption) (by simp) ?_))
  exact fin _ _ (Ext.app _ _) hK
theorem submit31_c {o c : Int} {x : Sub} (ho : Rng o) (h1 : Rng x.num) (h2 : Rng x.kind) (h3 : Rng x.target) (hc : c ≤ 4398046511104)
    (hK : K (.agg (shpPs (shpOf 1 [.num o, .num x.num, .num x.kind, .num x.target, .txt c, .sgn, .sgn]))) σ) : TCalls Try.prog 25 [.int .i64 o, subV x, .int .i64 c] σ K := by
  refine TCalls.drop ?_
  have g : ∀ v w p, cellAt ((σ.app [.cells v]).set σ.objs.length (.cells w)) σ.objs.length p = w.at p := fun v w p => cellAt_known (by simp [AST.set, AST.app]) p
  have fin : ∀ s' x, Ext σ s' → K (.agg (shpPs x)) σ → Ext σ s' ∧ (AV.agg (shpPs x)).noRef = true ∧ K (AV.agg (shpPs x)).strip σ := fun s' x hx h => ⟨hx, by simp [AV.noRef, AV.noRefs, shpPs], by simpa [AV.strip, AV.strips, shpPs] using h⟩
  refine tcalls_walk Try.f25 _ [.cell 6 58] Try.func25 rfl rfl rfl mixed (Nat.le_of_ble_eq_true rfl) rfl fun hlen => ?_
  repeat' (first | (simp -dsimp only [↓reduceIte, go_sem, g]) | (refine arr_intro fun _ => ?_) | (refine later_intro ⟨keeps_nil, ?_⟩) | (refine later_intro ⟨keeps_refl, ?_⟩) | (with_reducible refine keeps_go ?_ ?_; focus (first | (simp [keeps_cons, keeps_none, objs_app, objs_app0]; done) | (simp only [keeps_cons, keeps_none, objs_app0, objs_app, and_true]; first | rfl | exact ⟨rfl, rfl⟩ | exact ⟨rfl, rfl, rfl⟩))) | (with_reducible refine (And.intro (a := keeps _ _ _) ?_ ?_); focus (first | (simp [keeps_cons, keeps_none, objs_app, objs_app0]; done) | (simp only [keeps_cons, keeps_none, objs_app0, objs_app, and_true]; first | rfl | exact ⟨rfl, rfl⟩ | exact ⟨rfl, rfl, rfl⟩))) | (refine both_ways ?_ ?_) | (rw [wrap_i64 (by omega) (by omega)]) | (refine guardV_split (fun h => ?_) (fun h => ?_) <;> (try rw [h]) <;> (try simp at h) <;> (try (exfalso; omega))) | (refine build_parts (ps := [.num o, .num x.num, .num x.kind, .num x.target, .txt c, .sgn, .sgn]) rfl rfl (by decide) ?_) | (refine shape_c (ps := [.num o, .num x.num, .num x.kind, .num x.target, .txt c, .sgn, .sgn]) ⟨by decide, by decide⟩ (by intro p hp; simp only [List.mem_cons, List.not_mem_nil, or_false] at hp; rcases hp with rfl | rfl | rfl | rfl | rfl | rfl | rfl <;> first | exact trivial | assumption) (by simp) ?_))
  exact fin _ _ (Ext.app _ _) hK
def askS (k o : Int) (tk : Tk) (l : List Int) : Shp := if k = 5 ∨ k = 7 ∨ k = 8 then shpOf k [.num o, .lst tk l] else shp0
theorem ask31_c {k o : Int} {tk : Tk} {l : List Int} (ho : Rng o) (hl : l.length ≤ 10000) (hr : ∀ n ∈ l, Rng n)
    (hK : K (.agg (shpPs (askS k o tk l))) σ) : TCalls Try.prog 28 [.int .i64 k, .int .i64 o, .slice tk (l.map (AV.int .i64))] σ K := by
  refine TCalls.drop ?_
  have g : ∀ v w p, cellAt ((σ.app [.cells v]).set σ.objs.length (.cells w)) σ.objs.length p = w.at p := fun v w p => cellAt_known (by simp [AST.set, AST.app]) p
  have fin : ∀ s' x, Ext σ s' → K (.agg (shpPs x)) σ → Ext σ s' ∧ (AV.agg (shpPs x)).noRef = true ∧ K (AV.agg (shpPs x)).strip σ := fun s' x hx h => ⟨hx, by simp [AV.noRef, AV.noRefs, shpPs], by simpa [AV.strip, AV.strips, shpPs] using h⟩
  have q5 : k ≠ 5 → (k != 5) = true := fun h => by simpa using h
  have q7 : k ≠ 7 → (k != 7) = true := fun h => by simpa using h
  have q8 : k ≠ 8 → (k != 8) = true := fun h => by simpa using h
  by_cases hk : k = 5 ∨ k = 7 ∨ k = 8
  · have e : askS k o tk l = shpOf k [.num o, .lst tk l] := by unfold askS; rw [if_pos hk]
    rw [e] at hK
    have hkr : Rng k := ⟨by omega, by omega⟩
    refine tcalls_walk Try.f28 _ [.cell 6 58] Try.func28 rfl rfl rfl mixed (Nat.le_of_ble_eq_true rfl) rfl fun hlen => ?_
    rcases hk with hk | hk | hk
    all_goals
      subst hk
      repeat' (first | (simp -dsimp only [↓reduceIte, go_sem, g]) | (refine arr_intro fun _ => ?_) | (refine later_intro ⟨keeps_nil, ?_⟩) | (refine later_intro ⟨keeps_refl, ?_⟩) | (with_reducible refine keeps_go ?_ ?_; focus (first | (simp [keeps_cons, keeps_none, objs_app, objs_app0]; done) | (simp only [keeps_cons, keeps_none, objs_app0, objs_app, and_true]; first | rfl | exact ⟨rfl, rfl⟩ | exact ⟨rfl, rfl, rfl⟩))) | (with_reducible refine (And.intro (a := keeps _ _ _) ?_ ?_); focus (first | (simp [keeps_cons, keeps_none, objs_app, objs_app0]; done) | (simp only [keeps_cons, keeps_none, objs_app0, objs_app, and_true]; first | rfl | exact ⟨rfl, rfl⟩ | exact ⟨rfl, rfl, rfl⟩))) | (refine both_ways ?_ ?_) | (rw [wrap_i64 (by omega) (by omega)]) | (refine guardV_split (fun h => ?_) (fun h => ?_) <;> (try rw [h]) <;> (try simp at h) <;> (try (exfalso; omega))) | (refine build_parts (ps := [.num o, .lst tk l]) rfl rfl (by decide) ?_) | (refine shape_c (ps := [.num o, .lst tk l]) hkr (by intro p hp; simp only [List.mem_cons, List.not_mem_nil, or_false] at hp; rcases hp with rfl | rfl <;> first | exact ⟨hl, hr⟩ | assumption) (by simp) ?_))
      exact fin _ _ (Ext.app _ _) hK
  · have e : askS k o tk l = shp0 := by unfold askS; rw [if_neg hk]
    rw [e] at hK
    have d5 := q5 (by omega)
    have d7 := q7 (by omega)
    have d8 := q8 (by omega)
    refine tcalls_walk Try.f28 _ [.cell 6 58] Try.func28 rfl rfl rfl mixed (Nat.le_of_ble_eq_true rfl) rfl fun hlen => ?_
    repeat' (first | (simp -dsimp only [↓reduceIte, go_sem, g, d5, d7, d8]) | (refine arr_intro fun _ => ?_) | (refine later_intro ⟨keeps_nil, ?_⟩) | (refine later_intro ⟨keeps_refl, ?_⟩) | (with_reducible refine keeps_go ?_ ?_; focus (first | (simp [keeps_cons, keeps_none, objs_app, objs_app0]; done) | (simp only [keeps_cons, keeps_none, objs_app0, objs_app, and_true]; first | rfl | exact ⟨rfl, rfl⟩ | exact ⟨rfl, rfl, rfl⟩))) | (with_reducible refine (And.intro (a := keeps _ _ _) ?_ ?_); focus (first | (simp [keeps_cons, keeps_none, objs_app, objs_app0]; done) | (simp only [keeps_cons, keeps_none, objs_app0, objs_app, and_true]; first | rfl | exact ⟨rfl, rfl⟩ | exact ⟨rfl, rfl, rfl⟩))) | (refine both_ways ?_ ?_) | (rw [wrap_i64 (by omega) (by omega)]) | (refine guardV_split (fun h => ?_) (fun h => ?_) <;> (try rw [h]) <;> (try simp at h) <;> (try (exfalso; omega))))
    exact fin _ _ (Ext.app _ _) hK
def smallS (k o : Int) : Shp := if k = 9 then shpOf 9 [.num o] else if k = 11 then shpOf 11 [.num o, .sgn] else shp0
theorem small31_c {k o : Int} (ho : Rng o) (hK : K (.agg (shpPs (smallS k o))) σ) : TCalls Try.prog 30 [.int .i64 k, .int .i64 o] σ K := by
  refine TCalls.drop ?_
  have g : ∀ v w p, cellAt ((σ.app [.cells v]).set σ.objs.length (.cells w)) σ.objs.length p = w.at p := fun v w p => cellAt_known (by simp [AST.set, AST.app]) p
  have fin : ∀ s' x, Ext σ s' → K (.agg (shpPs x)) σ → Ext σ s' ∧ (AV.agg (shpPs x)).noRef = true ∧ K (AV.agg (shpPs x)).strip σ := fun s' x hx h => ⟨hx, by simp [AV.noRef, AV.noRefs, shpPs], by simpa [AV.strip, AV.strips, shpPs] using h⟩
  by_cases h9 : k = 9
  · have e : smallS k o = shpOf 9 [.num o] := by unfold smallS; rw [if_pos h9]
    rw [e] at hK
    subst h9
    refine tcalls_walk Try.f30 _ [.cell 4 58] Try.func30 rfl rfl rfl mixed (Nat.le_of_ble_eq_true rfl) rfl fun hlen => ?_
    repeat' (first | (simp -dsimp only [↓reduceIte, go_sem, g]) | (refine arr_intro fun _ => ?_) | (refine later_intro ⟨keeps_nil, ?_⟩) | (refine later_intro ⟨keeps_refl, ?_⟩) | (with_reducible refine keeps_go ?_ ?_; focus (first | (simp [keeps_cons, keeps_none, objs_app, objs_app0]; done) | (simp only [keeps_cons, keeps_none, objs_app0, objs_app, and_true]; first | rfl | exact ⟨rfl, rfl⟩ | exact ⟨rfl, rfl, rfl⟩))) | (with_reducible refine (And.intro (a := keeps _ _ _) ?_ ?_); focus (first | (simp [keeps_cons, keeps_none, objs_app, objs_app0]; done) | (simp only [keeps_cons, keeps_none, objs_app0, objs_app, and_true]; first | rfl | exact ⟨rfl, rfl⟩ | exact ⟨rfl, rfl, rfl⟩))) | (refine both_ways ?_ ?_) | (rw [wrap_i64 (by omega) (by omega)]) | (refine guardV_split (fun h => ?_) (fun h => ?_) <;> (try rw [h]) <;> (try simp at h) <;> (try (exfalso; omega))) | (refine build_parts (ps := [.num o]) rfl rfl (by decide) ?_) | (refine shape_c (ps := [.num o]) ⟨by decide, by decide⟩ (by intro p hp; simp only [List.mem_cons, List.not_mem_nil, or_false] at hp; subst hp; assumption) (by simp) ?_))
    exact fin _ _ (Ext.app _ _) hK
  by_cases h11 : k = 11
  · have e : smallS k o = shpOf 11 [.num o, .sgn] := by unfold smallS; rw [if_neg h9, if_pos h11]
    rw [e] at hK
    subst h11
    refine tcalls_walk Try.f30 _ [.cell 4 58] Try.func30 rfl rfl rfl mixed (Nat.le_of_ble_eq_true rfl) rfl fun hlen => ?_
    repeat' (first | (simp -dsimp only [↓reduceIte, go_sem, g]) | (refine arr_intro fun _ => ?_) | (refine later_intro ⟨keeps_nil, ?_⟩) | (refine later_intro ⟨keeps_refl, ?_⟩) | (with_reducible refine keeps_go ?_ ?_; focus (first | (simp [keeps_cons, keeps_none, objs_app, objs_app0]; done) | (simp only [keeps_cons, keeps_none, objs_app0, objs_app, and_true]; first | rfl | exact ⟨rfl, rfl⟩ | exact ⟨rfl, rfl, rfl⟩))) | (with_reducible refine (And.intro (a := keeps _ _ _) ?_ ?_); focus (first | (simp [keeps_cons, keeps_none, objs_app, objs_app0]; done) | (simp only [keeps_cons, keeps_none, objs_app0, objs_app, and_true]; first | rfl | exact ⟨rfl, rfl⟩ | exact ⟨rfl, rfl, rfl⟩))) | (refine both_ways ?_ ?_) | (rw [wrap_i64 (by omega) (by omega)]) | (refine guardV_split (fun h => ?_) (fun h => ?_) <;> (try rw [h]) <;> (try simp at h) <;> (try (exfalso; omega))) | (refine build_parts (ps := [.num o, .sgn]) rfl rfl (by decide) ?_) | (refine shape_c (ps := [.num o, .sgn]) ⟨by decide, by decide⟩ (by intro p hp; simp only [List.mem_cons, List.not_mem_nil, or_false] at hp; rcases hp with rfl | rfl <;> first | exact trivial | assumption) (by simp) ?_))
    exact fin _ _ (Ext.app _ _) hK
  · have e : smallS k o = shp0 := by unfold smallS; rw [if_neg h9, if_neg h11]
    rw [e] at hK
    have d9 : (k == 9) = false := by simpa using h9
    have d11 : (k == 11) = false := by simpa using h11
    refine tcalls_walk Try.f30 _ [.cell 4 58] Try.func30 rfl rfl rfl mixed (Nat.le_of_ble_eq_true rfl) rfl fun hlen => ?_
    repeat' (first | (simp -dsimp only [↓reduceIte, go_sem, g, d9, d11]) | (refine arr_intro fun _ => ?_) | (refine later_intro ⟨keeps_nil, ?_⟩) | (refine later_intro ⟨keeps_refl, ?_⟩) | (with_reducible refine keeps_go ?_ ?_; focus (first | (simp [keeps_cons, keeps_none, objs_app, objs_app0]; done) | (simp only [keeps_cons, keeps_none, objs_app0, objs_app, and_true]; first | rfl | exact ⟨rfl, rfl⟩ | exact ⟨rfl, rfl, rfl⟩))) | (with_reducible refine (And.intro (a := keeps _ _ _) ?_ ?_); focus (first | (simp [keeps_cons, keeps_none, objs_app, objs_app0]; done) | (simp only [keeps_cons, keeps_none, objs_app0, objs_app, and_true]; first | rfl | exact ⟨rfl, rfl⟩ | exact ⟨rfl, rfl, rfl⟩))) | (refine both_ways ?_ ?_) | (rw [wrap_i64 (by omega) (by omega)]) | (refine guardV_split (fun h => ?_) (fun h => ?_) <;> (try rw [h]) <;> (try simp at h) <;> (try (exfalso; omega))))
    exact fin _ _ (Ext.app _ _) hK
end
section
variable {σ : AST} {K : AV → AST → Prop}
theorem llen_flat {l : List Int} : (l.flatMap numS).length = llen l := by
  induction l with
  | nil => rfl
  | cons a l ih => rw [List.flatMap_cons, List.length_append, ih]; simp [llen, nlen]
end
attribute [local go_sem] Try.underlying3 Try.underlying5 Try.underlying123
attribute [local go_sem] fits9 fits31
structure Node where
  num : Int
  kind : Int
  data : List UInt8
  names : List (List UInt8)
  nodes : List Int
def nd0 : Node := ⟨0, 0, [], [], []⟩
def ndPs (t0 t1 : Tk) (x : Node) : List AV := [.int .i64 x.num, .int .i64 x.kind, .str x.data, .slice t0 (x.names.map AV.str), .slice t1 (x.nodes.map (AV.int .i64))]
abbrev ndV (t0 t1 : Tk) (x : Node) : AV := .agg (ndPs t0 t1 x)
theorem ndPs_0 {t0 t1 : Tk} {x : Node} : (ndPs t0 t1 x)[0]? = some (.int .i64 x.num) := nr rfl
theorem ndAt_0 {t0 t1 : Tk} {x : Node} {v : AV} : partIs Try.prog 102 (ndPs t0 t1 x) 0 v = fits Try.prog 3 v := by rw [partIs_of (o := 0) (T := 3) (by kernel_rfl)]; simp [ndPs, AV.sizes, AV.size]
theorem ndSet_0 {t0 t1 : Tk} {x : Node} {y : Int} : (ndPs t0 t1 x).set 0 (.int .i64 y) = ndPs t0 t1 { x with num := y } := nr rfl
theorem ndPs_1 {t0 t1 : Tk} {x : Node} : (ndPs t0 t1 x)[1]? = some (.int .i64 x.kind) := nr rfl
theorem ndAt_1 {t0 t1 : Tk} {x : Node} {v : AV} : partIs Try.prog 102 (ndPs t0 t1 x) 1 v = fits Try.prog 3 v := by rw [partIs_of (o := 1) (T := 3) (by kernel_rfl)]; simp [ndPs, AV.sizes, AV.size]
theorem ndSet_1 {t0 t1 : Tk} {x : Node} {y : Int} : (ndPs t0 t1 x).set 1 (.int .i64 y) = ndPs t0 t1 { x with kind := y } := nr rfl
theorem ndPs_2 {t0 t1 : Tk} {x : Node} : (ndPs t0 t1 x)[2]? = some (.str x.data) := nr rfl
theorem ndAt_2 {t0 t1 : Tk} {x : Node} {v : AV} : partIs Try.prog 102 (ndPs t0 t1 x) 2 v = fits Try.prog 9 v := by rw [partIs_of (o := 2) (T := 9) (by kernel_rfl)]; simp [ndPs, AV.sizes, AV.size]
theorem ndSet_2 {t0 t1 : Tk} {x : Node} {y : List UInt8} : (ndPs t0 t1 x).set 2 (.str y) = ndPs t0 t1 { x with data := y } := nr rfl
theorem ndPs_3 {t0 t1 : Tk} {x : Node} : (ndPs t0 t1 x)[3]? = some (.slice t0 (x.names.map AV.str)) := nr rfl
theorem ndAt_3 {t0 t1 : Tk} {x : Node} {v : AV} : partIs Try.prog 102 (ndPs t0 t1 x) 3 v = fits Try.prog 43 v := by rw [partIs_of (o := 3) (T := 43) (by kernel_rfl)]; simp [ndPs, AV.sizes, AV.size]
theorem ndSet_3 {t0 t1 : Tk} {u0 : Tk} {x : Node} {y : List (List UInt8)} : (ndPs t0 t1 x).set 3 (.slice u0 (y.map AV.str)) = ndPs u0 t1 { x with names := y } := nr rfl
theorem ndPs_4 {t0 t1 : Tk} {x : Node} : (ndPs t0 t1 x)[4]? = some (.slice t1 (x.nodes.map (AV.int .i64))) := nr rfl
theorem ndAt_4 {t0 t1 : Tk} {x : Node} {v : AV} : partIs Try.prog 102 (ndPs t0 t1 x) 4 v = fits Try.prog 50 v := by rw [partIs_of (o := 4) (T := 50) (by kernel_rfl)]; simp [ndPs, AV.sizes, AV.size]
theorem ndSet_4 {t0 t1 : Tk} {u0 : Tk} {x : Node} {y : List Int} : (ndPs t0 t1 x).set 4 (.slice u0 (y.map (AV.int .i64))) = ndPs t0 u0 { x with nodes := y } := nr rfl
theorem sizes_nd {t0 t1 : Tk} {x : Node} : AV.sizes (ndPs t0 t1 x) = 5 := by simp [ndPs, AV.sizes, AV.size]
theorem shapes_nd {t0 t1 : Tk} {x : Node} : AV.shapes (ndPs t0 t1 x) = [.leaf, .leaf, .leaf, .leaf, .leaf] := by simp [ndPs, AV.shapes, AV.shape]
theorem fits_nd {v : AV} : fits Try.prog 102 v = (v.isAgg = true ∧ v.size = 5) := fits_agg (by kernel_rfl) (by kernel_rfl)
theorem zero_nd : zeroA Try.prog 12 102 = .agg (ndPs .full .full nd0) := by kernel_rfl
theorem zt_nd : ZeroOf Try.prog 102 (.agg (ndPs .full .full nd0)) = True := eq_true ⟨_, _, rfl, rfl, rfl, rfl, rfl⟩
theorem built_nd : Built Try.prog 102 = True := eq_true (by unfold Built; rw [Try.underlying102]; decide +kernel)
/-ATTR ndPs_0 ndAt_0 ndSet_0 ndPs_1 ndAt_1 ndSet_1 ndPs_2 ndAt_2 ndSet_2 ndPs_3 ndAt_3 ndSet_3 ndPs_4 ndAt_4 ndSet_4 sizes_nd shapes_nd fits_nd zero_nd zt_nd built_nd Try.underlying102 -/
theorem fits43 {v : AV} : fits Try.prog 43 v = (v.isAgg = false ∧ v.size = 1) := fits_leaf (by kernel_rfl) (by kernel_rfl)
attribute [local go_sem] ndPs_0 ndAt_0 ndSet_0 ndPs_1 ndAt_1 ndSet_1 ndPs_2 ndAt_2 ndSet_2 ndPs_3 ndAt_3 ndSet_3 ndPs_4 ndAt_4 ndSet_4 sizes_nd fits_nd zero_nd zt_nd built_nd Try.underlying102 Try.underlying123 Try.underlying84 Try.underlying22 fits43 L21.zt46 L21.zero46 L21.agg_leaf L21.known_leaf L21.fits46 L21.p46_0 L21.p46_1 L21.p46_2 L21.p46_4 L21.p46_5
abbrev TL := L21.TLeaf
structure TNd where
  x : Node
  t : Tk
  u : Tk
def ndX (y : TNd) : AV := ndV y.t y.u y.x
def nodeOf (y : L21.Leaf) : Node := ⟨y.num, y.kind, List.replicate (max 0 (min y.size 512)).toNat 0, y.names, y.nodes⟩
theorem E52 : ElemT Try.prog 52 102 5 80 := ⟨rfl, by kernel_rfl, by kernel_rfl, ⟨_, of_eq_true zt_nd⟩, by decide⟩
theorem size_nds {l : List TNd} : ∀ v ∈ l.map ndX, v.size = 5 := by
  intro v hv; obtain ⟨x, _, rfl⟩ := List.mem_map.1 hv; simp only [ndX, AV.size, sizes_nd]
theorem append_nd {a : List TNd} {y : TNd} {tk tk2 : Tk} {σ : AST} {K : AV → AST → Prop} (hca : canApp σ tk a.length 5) (hl : a.length ≤ 5000) (hK : K (.slice (growT σ tk) ((a ++ [y]).map ndX)) (growS σ tk (a.length + 1) 5)) :
    appendW Try.prog ⟨[52, 52]⟩ (.slice tk (a.map ndX)) (.slice tk2 [ndX y]) σ K := by
  refine append_slice E52 rfl (by rw [List.length_map]; exact hca) (by intro v hv; simp at hv; subst hv; simp only [ndX, AV.size, sizes_nd]) size_nds (by simp; omega) (by simp [maxL]; omega) ?_
  simpa using hK
theorem make_zeros {n : Int} {σ : AST} {K : AV → AST → Prop} (h0 : 0 ≤ n) (h1 : n ≤ 512) (hK : K (.slice .full (u8s (List.replicate n.toNat 0))) σ) : makeSliceW Try.prog 123 (.int .i64 n) (.int .i64 n) σ K := by
  refine ⟨h0, Int.le_refl _, 5, .int .u8 0, Try.underlying123, ⟨_, _, rfl, rfl, rfl, rfl, rfl⟩, by decide +kernel, ?_, by omega, .inr (.inl ⟨rfl, ?_⟩)⟩
  · have h : Try.prog.bytesOf 5 = 1 := by kernel_rfl
    rw [h]; omega
  · simpa [u8s] using hK
section
variable {σ : AST} {K : AV → AST → Prop}
def NodesOf (l : List TL) (L : List TNd) : Prop := L.map (·.x) = l.map fun y => nodeOf y.x
theorem nodes_of_next {l : List TL} {L : List TNd} {i : Nat} {y : TL} {z : TNd} (h : NodesOf (l.take i) L) (hy : l[i]? = some y) (hz : z.x = nodeOf y.x) : NodesOf (l.take (i + 1)) (L ++ [z]) := by
  have hi := (List.getElem?_eq_some_iff.1 hy).1
  have e : l.take (i + 1) = l.take i ++ [y] := by rw [← (List.getElem?_eq_some_iff.1 hy).2]; exact (List.take_append_getElem hi).symm
  unfold NodesOf at h ⊢
  rw [e, List.map_append, List.map_append, h]; simp [hz]
theorem rnodes_c {l : List TL} {tk : Tk} (hl : l.length ≤ 1000) (hs : ∀ y ∈ l, 0 ≤ y.x.size ∧ y.x.size ≤ 512) (hK : ∀ s' t L, NodesOf l L → Ext σ s' → K (.slice t (L.map ndX)) s') : TCalls Try.prog 80 [.slice tk (l.map L21.leafV)] σ K := by
  refine tcalls_walk Try.f80 _ [.tmp 2] Try.func80 rfl rfl rfl mixed (Nat.le_of_ble_eq_true rfl) rfl fun hlen => ?_
  repeat' (first | (simp -dsimp only [↓reduceIte, go_sem]) | (refine arr_intro fun _ => ?_) | (refine later_intro ⟨keeps_nil, ?_⟩) | (refine later_intro ⟨keeps_refl, ?_⟩) | (with_reducible refine keeps_go ?_ ?_; focus (first | (simp [keeps_cons, keeps_none, objs_app, objs_app0]; done) | (simp only [keeps_cons, keeps_none, objs_app0, objs_app, and_true]; first | rfl | exact ⟨rfl, rfl⟩ | exact ⟨rfl, rfl, rfl⟩))) | (with_reducible refine (And.intro (a := keeps _ _ _) ?_ ?_); focus (first | (simp [keeps_cons, keeps_none, objs_app, objs_app0]; done) | (simp only [keeps_cons, keeps_none, objs_app0, objs_app, and_true]; first | rfl | exact ⟨rfl, rfl⟩ | exact ⟨rfl, rfl, rfl⟩))) | (refine both_ways ?_ ?_) | (rw [wrap_i64 (by omega) (by omega)]) | (refine guardV_split (fun h => ?_) (fun h => ?_) <;> (try rw [h]) <;> (try simp at h) <;> (try (exfalso; omega))))
  refine awp_rounds (fun (i : Nat) τ s => ∃ t L, i ≤ l.length ∧ NodesOf (l.take i) L ∧ Gr σ s t L.length 5 ∧ τ 0 = .slice tk (l.map L21.leafV) ∧ τ 3 = .slice t (L.map ndX) ∧ τ 4 = .int .i64 i) (fun i => l.length - i) 0 ?_ ?_
  · refine ⟨.full, [], by omega, rfl, Gr.start, ?_, ?_, ?_⟩ <;> (try simp only [go_sem]) <;> (try rfl)
  · rintro i τ s ⟨t, L, hi, hN, hG, t0, t3, t4⟩
    by_cases hlt : i < l.length
    · have hlt1 : (i : Int) < l.length := by omega
      have hy : l[i]? = some l[i] := List.getElem?_eq_getElem hlt
      have hz := hs _ (List.getElem_mem hlt)
      generalize l[i] = y at hy hz
      have w1 : IntKind.i64.wrap ((i : Int) + 1) = (i : Int) + 1 := wrap_i64 (by omega) (by omega)
      have hLl : L.length = i := by have := congrArg List.length hN; simp at this; omega
      repeat' (first | (simp -dsimp only [↓reduceIte, go_sem, t0, t3, t4, hlt1, w1, L21.leafV]) | (refine arr_intro fun _ => ?_) | (refine later_intro ⟨keeps_nil, ?_⟩) | (refine later_intro ⟨keeps_refl, ?_⟩) | (with_reducible refine keeps_go ?_ ?_; focus (first | (simp [keeps_cons, keeps_none, objs_app, objs_app0]; done) | (simp only [keeps_cons, keeps_none, objs_app0, objs_app, and_true]; first | rfl | exact ⟨rfl, rfl⟩ | exact ⟨rfl, rfl, rfl⟩))) | (with_reducible refine (And.intro (a := keeps _ _ _) ?_ ?_); focus (first | (simp [keeps_cons, keeps_none, objs_app, objs_app0]; done) | (simp only [keeps_cons, keeps_none, objs_app0, objs_app, and_true]; first | rfl | exact ⟨rfl, rfl⟩ | exact ⟨rfl, rfl, rfl⟩))) | (refine both_ways ?_ ?_) | (rw [wrap_i64 (by omega) (by omega)]) | (refine guardV_split (fun h => ?_) (fun h => ?_) <;> (try rw [h]) <;> (try simp at h) <;> (try (exfalso; omega))) | (with_reducible refine awp_drawU (id := 6) (.op 0 0 (.op 1 0 (.op 2 0 (.op 3 0 (.op 4 0 (.op 5 2 (.op 6 2 (.op 9 0 (.op 10 0 (.op 11 0 (.op 12 0 (.op 7 1 (.cut (.op 8 2 (.op 13 2 (.op 14 2 (.op 15 1 (.op 16 2 .nil)))))))))))))))))) (by kernel_rfl) ?_) | (refine nth_get hy ?_) | (refine make_zeros hz.1 hz.2 ?_))
      have e : AV.agg (ndPs y.t2 y.t3 { num := y.x.num, kind := y.x.kind, data := List.replicate y.x.size.toNat 0, names := y.x.names, nodes := y.x.nodes }) = ndX ⟨nodeOf y.x, y.t2, y.t3⟩ := by
        have : (max 0 (min y.x.size 512)).toNat = y.x.size.toNat := by omega
        simp only [ndX, nodeOf, this]
      rw [e]
      have hga := fun l => hG.app (l := l)
      repeat' (first | (simp -dsimp only [↓reduceIte, go_sem, t0, t3, t4, w1]) | (refine arr_intro fun _ => ?_) | (refine later_intro ⟨keeps_nil, ?_⟩) | (refine later_intro ⟨keeps_refl, ?_⟩) | (with_reducible refine keeps_go ?_ ?_; focus (first | (simp [keeps_cons, keeps_none, objs_app, objs_app0]; done) | (simp only [keeps_cons, keeps_none, objs_app0, objs_app, and_true]; first | rfl | exact ⟨rfl, rfl⟩ | exact ⟨rfl, rfl, rfl⟩))) | (with_reducible refine (And.intro (a := keeps _ _ _) ?_ ?_); focus (first | (simp [keeps_cons, keeps_none, objs_app, objs_app0]; done) | (simp only [keeps_cons, keeps_none, objs_app0, objs_app, and_true]; first | rfl | exact ⟨rfl, rfl⟩ | exact ⟨rfl, rfl, rfl⟩))) | (refine both_ways ?_ ?_) | (rw [wrap_i64 (by omega) (by omega)]) | (refine guardV_split (fun h => ?_) (fun h => ?_) <;> (try rw [h]) <;> (try simp at h) <;> (try (exfalso; omega))) | (refine build_slice E52 rfl (by decide) (by intro v hv; simp at hv; subst hv; simp [go_sem, ndX]) ?_) | (refine append_nd (hga _).c (by omega) ?_))
      refine later_intro ⟨i + 1, by omega, growT (s.app [.cells (L21.leafV y)]) t, L ++ [⟨nodeOf y.x, y.t2, y.t3⟩], by omega, nodes_of_next hN hy rfl, ?_, ?_, ?_, ?_⟩ <;> (try simp only [go_sem, t0, t3, t4]) <;> (try rfl)
      rw [List.length_append]
      exact (hga _).grow
    · obtain rfl : i = l.length := by omega
      have hlt1 : ¬ ((l.length : Nat) : Int) < l.length := by omega
      rw [List.take_length] at hN
      repeat' (first | (simp -dsimp only [↓reduceIte, go_sem, t0, t3, t4, hlt1]) | (refine arr_intro fun _ => ?_) | (refine later_intro ⟨keeps_nil, ?_⟩) | (refine later_intro ⟨keeps_refl, ?_⟩) | (with_reducible refine keeps_go ?_ ?_; focus (first | (simp [keeps_cons, keeps_none, objs_app, objs_app0]; done) | (simp only [keeps_cons, keeps_none, objs_app0, objs_app, and_true]; first | rfl | exact ⟨rfl, rfl⟩ | exact ⟨rfl, rfl, rfl⟩))) | (with_reducible refine (And.intro (a := keeps _ _ _) ?_ ?_); focus (first | (simp [keeps_cons, keeps_none, objs_app, objs_app0]; done) | (simp only [keeps_cons, keeps_none, objs_app0, objs_app, and_true]; first | rfl | exact ⟨rfl, rfl⟩ | exact ⟨rfl, rfl, rfl⟩))) | (refine both_ways ?_ ?_) | (rw [wrap_i64 (by omega) (by omega)]) | (refine guardV_split (fun h => ?_) (fun h => ?_) <;> (try rw [h]) <;> (try simp at h) <;> (try (exfalso; omega))))
      exact hK _ _ _ hN hG.x
theorem _root_.Go.Aff.Gr.other {σ s : AST} {tk : Tk} {n e m f : Nat} (h : Gr σ s tk n e) : Gr σ (growS s .full m f) tk n e := ⟨h.x.trans (Ext.growFull _ _ _), h.t, canApp_apart apart_full h.c⟩
theorem append_names {b : List (List UInt8)} {tk2 : Tk} {σ : AST} {K : AV → AST → Prop} (hl : b.length ≤ 5000) (hK : K (.slice (growT σ .full) (b.map AV.str)) (growS σ .full b.length 1)) :
    appendW Try.prog ⟨[43, 43]⟩ (.slice .full []) (.slice tk2 (b.map AV.str)) σ K := by
  refine append_slice (xs := []) L21.E29 rfl trivial (by intro v hv; obtain ⟨x, _, rfl⟩ := List.mem_map.1 hv; rfl) (by intro v hv; simp at hv) (by simp; omega) (by simp [maxL]; omega) ?_
  simpa using hK
theorem append_kids {b : List Int} {tk2 : Tk} {σ : AST} {K : AV → AST → Prop} (hl : b.length ≤ 5000) (hK : K (.slice (growT σ .full) (b.map (AV.int .i64))) (growS σ .full b.length 1)) :
    appendW Try.prog ⟨[50, 50]⟩ (.slice .full []) (.slice tk2 (b.map (AV.int .i64))) σ K := by
  refine append_slice (xs := []) L21.E44 rfl trivial (by intro v hv; obtain ⟨x, _, rfl⟩ := List.mem_map.1 hv; rfl) (by intro v hv; simp at hv) (by simp; omega) (by simp [maxL]; omega) ?_
  simpa using hK
theorem inodes_c {l : List TL} {tk : Tk} (hl : l.length ≤ 1000) (hs : ∀ y ∈ l, y.x.names.length ≤ 5000 ∧ y.x.nodes.length ≤ 5000) (hK : ∀ s' t L, NodesOf l L → Ext σ s' → K (.slice t (L.map ndX)) s') : TCalls Try.prog 76 [.slice tk (l.map L21.leafV)] σ K := by
  refine tcalls_walk Try.f76 _ [.tmp 2] Try.func76 rfl rfl rfl mixed (Nat.le_of_ble_eq_true rfl) rfl fun hlen => ?_
  repeat' (first | (simp -dsimp only [↓reduceIte, go_sem]) | (refine arr_intro fun _ => ?_) | (refine later_intro ⟨keeps_nil, ?_⟩) | (refine later_intro ⟨keeps_refl, ?_⟩) | (with_reducible refine keeps_go ?_ ?_; focus (first | (simp [keeps_cons, keeps_none, objs_app, objs_app0]; done) | (simp only [keeps_cons, keeps_none, objs_app0, objs_app, and_true]; first | rfl | exact ⟨rfl, rfl⟩ | exact ⟨rfl, rfl, rfl⟩))) | (with_reducible refine (And.intro (a := keeps _ _ _) ?_ ?_); focus (first | (simp [keeps_cons, keeps_none, objs_app, objs_app0]; done) | (simp only [keeps_cons, keeps_none, objs_app0, objs_app, and_true]; first | rfl | exact ⟨rfl, rfl⟩ | exact ⟨rfl, rfl, rfl⟩))) | (refine both_ways ?_ ?_) | (rw [wrap_i64 (by omega) (by omega)]) | (refine guardV_split (fun h => ?_) (fun h => ?_) <;> (try rw [h]) <;> (try simp at h) <;> (try (exfalso; omega))))
  refine awp_rounds (fun (i : Nat) τ s => ∃ t L, i ≤ l.length ∧ NodesOf (l.take i) L ∧ Gr σ s t L.length 5 ∧ τ 3 = .slice t (L.map ndX) ∧ τ 7 = .slice tk (l.map L21.leafV) ∧ τ 8 = .int .i64 l.length ∧ τ 9 = .int .i64 i) (fun i => l.length - i) 0 ?_ ?_
  · refine ⟨.full, [], by omega, rfl, Gr.start, ?_, ?_, ?_, ?_⟩ <;> (try simp only [go_sem]) <;> (try rfl)
  · rintro i τ s ⟨t, L, hi, hN, hG, t3, t7, t8, t9⟩
    by_cases hlt : i < l.length
    · have hlt1 : (i : Int) < l.length := by omega
      have hy : l[i]? = some l[i] := List.getElem?_eq_getElem hlt
      have hz := hs _ (List.getElem_mem hlt)
      generalize l[i] = y at hy hz
      have w1 : IntKind.i64.wrap ((i : Int) + 1) = (i : Int) + 1 := wrap_i64 (by omega) (by omega)
      have hLl : L.length = i := by have := congrArg List.length hN; simp at this; omega
      repeat' (first | (simp -dsimp only [↓reduceIte, go_sem, t3, t7, t8, t9, hlt1, w1, L21.leafV]) | (refine arr_intro fun _ => ?_) | (refine later_intro ⟨keeps_nil, ?_⟩) | (refine later_intro ⟨keeps_refl, ?_⟩) | (with_reducible refine keeps_go ?_ ?_; focus (first | (simp [keeps_cons, keeps_none, objs_app, objs_app0]; done) | (simp only [keeps_cons, keeps_none, objs_app0, objs_app, and_true]; first | rfl | exact ⟨rfl, rfl⟩ | exact ⟨rfl, rfl, rfl⟩))) | (with_reducible refine (And.intro (a := keeps _ _ _) ?_ ?_); focus (first | (simp [keeps_cons, keeps_none, objs_app, objs_app0]; done) | (simp only [keeps_cons, keeps_none, objs_app0, objs_app, and_true]; first | rfl | exact ⟨rfl, rfl⟩ | exact ⟨rfl, rfl, rfl⟩))) | (refine both_ways ?_ ?_) | (rw [wrap_i64 (by omega) (by omega)]) | (refine guardV_split (fun h => ?_) (fun h => ?_) <;> (try rw [h]) <;> (try simp at h) <;> (try (exfalso; omega))) | (with_reducible refine awp_drawU (id := 6) (.op 0 0 (.op 1 0 (.op 2 0 (.op 3 0 (.op 4 0 (.op 5 0 (.op 8 0 (.op 9 0 (.op 10 0 (.op 12 0 (.op 13 0 (.op 14 0 (.fork 6 (.op 6 1 (.op 7 0 (.op 11 1 (.op 15 1 (.cut (.op 16 2 (.op 17 2 (.op 18 1 (.op 19 2 .nil))))))))) (.op 11 1 (.fork 6 (.op 6 1 (.op 7 0 (.op 15 1 (.cut (.op 16 2 (.op 17 2 (.op 18 1 (.op 19 2 .nil)))))))) (.op 15 1 (.op 6 1 (.cut (.op 7 2 (.op 16 2 (.op 17 2 (.op 18 1 (.op 19 2 .nil))))))))))))))))))))))) (by kernel_rfl) ?_) | (refine nth_get hy ?_) | (refine make_zeros (by omega) (by omega) ?_) | (refine build_slice L21.E29 rfl (by decide) (by intro v hv; simp at hv) ?_) | (refine build_slice L21.E44 rfl (by decide) (by intro v hv; simp at hv) ?_) | (refine append_names hz.1 ?_) | (refine append_kids hz.2 ?_))
      all_goals
        have e : ∀ t u, AV.agg (ndPs t u { num := y.x.num, kind := y.x.kind, data := List.replicate (max 0 (min y.x.size 512)).toNat 0, names := y.x.names, nodes := y.x.nodes }) = ndX ⟨nodeOf y.x, t, u⟩ := fun t u => rfl
        have hga := fun l a b => (((hG.app (l := l)).other (m := a) (f := 1)).other (m := b) (f := 1))
        rw [e]
        repeat' (first | (simp -dsimp only [↓reduceIte, go_sem, t3, t7, t8, t9, w1]) | (refine arr_intro fun _ => ?_) | (refine later_intro ⟨keeps_nil, ?_⟩) | (refine later_intro ⟨keeps_refl, ?_⟩) | (with_reducible refine keeps_go ?_ ?_; focus (first | (simp [keeps_cons, keeps_none, objs_app, objs_app0]; done) | (simp only [keeps_cons, keeps_none, objs_app0, objs_app, and_true]; first | rfl | exact ⟨rfl, rfl⟩ | exact ⟨rfl, rfl, rfl⟩))) | (with_reducible refine (And.intro (a := keeps _ _ _) ?_ ?_); focus (first | (simp [keeps_cons, keeps_none, objs_app, objs_app0]; done) | (simp only [keeps_cons, keeps_none, objs_app0, objs_app, and_true]; first | rfl | exact ⟨rfl, rfl⟩ | exact ⟨rfl, rfl, rfl⟩))) | (refine both_ways ?_ ?_) | (rw [wrap_i64 (by omega) (by omega)]) | (refine guardV_split (fun h => ?_) (fun h => ?_) <;> (try rw [h]) <;> (try simp at h) <;> (try (exfalso; omega))) | (refine build_slice E52 rfl (by decide) (by intro v hv; simp at hv; subst hv; simp [go_sem, ndX]) ?_) | (refine append_nd (hga _ _ _).c (by omega) ?_))
        refine later_intro ⟨i + 1, by omega, growT (growS (growS (s.app [.cells (L21.leafV y)]) .full y.x.names.length 1) .full y.x.nodes.length 1) t, L ++ [⟨nodeOf y.x, growT (s.app [.cells (L21.leafV y)]) .full, growT (growS (s.app [.cells (L21.leafV y)]) .full y.x.names.length 1) .full⟩], by omega, nodes_of_next hN hy rfl, ?_, ?_, ?_, ?_, ?_⟩ <;> (try simp only [go_sem, t3, t7, t8, t9]) <;> (try rfl)
        rw [List.length_append]
        exact (hga _ _ _).grow
    · obtain rfl : i = l.length := by omega
      have hlt1 : ¬ ((l.length : Nat) : Int) < l.length := by omega
      rw [List.take_length] at hN
      repeat' (first | (simp -dsimp only [↓reduceIte, go_sem, t3, t7, t8, t9, hlt1]) | (refine arr_intro fun _ => ?_) | (refine later_intro ⟨keeps_nil, ?_⟩) | (refine later_intro ⟨keeps_refl, ?_⟩) | (with_reducible refine keeps_go ?_ ?_; focus (first | (simp [keeps_cons, keeps_none, objs_app, objs_app0]; done) | (simp only [keeps_cons, keeps_none, objs_app0, objs_app, and_true]; first | rfl | exact ⟨rfl, rfl⟩ | exact ⟨rfl, rfl, rfl⟩))) | (with_reducible refine (And.intro (a := keeps _ _ _) ?_ ?_); focus (first | (simp [keeps_cons, keeps_none, objs_app, objs_app0]; done) | (simp only [keeps_cons, keeps_none, objs_app0, objs_app, and_true]; first | rfl | exact ⟨rfl, rfl⟩ | exact ⟨rfl, rfl, rfl⟩))) | (refine both_ways ?_ ?_) | (rw [wrap_i64 (by omega) (by omega)]) | (refine guardV_split (fun h => ?_) (fun h => ?_) <;> (try rw [h]) <;> (try simp at h) <;> (try (exfalso; omega))))
      exact hK _ _ _ hN hG.x
end
end Go.Aff.L10

