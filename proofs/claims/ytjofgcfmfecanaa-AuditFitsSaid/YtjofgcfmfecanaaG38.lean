import Derived.Test.YtjofgcfmfecanaaG37

set_option linter.unusedSimpArgs false
set_option linter.unusedVariables false

/- Layer 32: AuditFits. -/
-- cuts
namespace Go.Aff.L10
open Go.Proofs Go.Aff Go.Aff.L01 Classical
set_option linter.unusedVariables false
set_option linter.unusedSimpArgs false
set_option maxRecDepth 20000
attribute [local go_sem] push_app app_app length_app cellAt_app cellAt_app0 set_app set_app0 objs_app objs_app0 List.cons_append List.nil_append List.length_cons List.length_nil List.getElem?_cons_zero List.getElem?_cons_succ List.set_cons_zero List.set_cons_succ List.length_map
attribute [-go_sem] cellAt_new
attribute [-simp] List.length_flatMap
attribute [local go_sem] Try.underlying3 Try.underlying4 Try.underlying5 Try.underlying9 Try.underlying42 Try.underlying43 Try.underlying46 Try.underlying51 Try.underlying39 Try.underlying37 subPs_0 subAt_0 subSet_0 subPs_1 subAt_1 subSet_1 subPs_2 subAt_2 subSet_2 subPs_3 subAt_3 subSet_3 subPs_4 subAt_4 subSet_4 subPs_5 subAt_5 subSet_5 sizes_sub shapes_sub fits_sub zero_sub zt_sub built_sub Try.underlying45 pendPs_0 pendAt_0 pendSet_0 pendPs_1 pendAt_1 pendSet_1 pendPs_2 pendAt_2 pendSet_2 pendPs_3 pendAt_3 pendSet_3 pendPs_4 pendAt_4 pendSet_4 pendPs_5 pendAt_5 pendSet_5 sizes_pend shapes_pend fits_pend zero_pend zt_pend built_pend Try.underlying96 repPs_0 repAt_0 repSet_0 repPs_1 repAt_1 repSet_1 repPs_2 repAt_2 repSet_2 repPs_3 repAt_3 repSet_3 repPs_4 repAt_4 repSet_4 repPs_5 repAt_5 repSet_5 repPs_6 repAt_6 repSet_6 repPs_7 repAt_7 repSet_7 repPs_8 repAt_8 repSet_8 repPs_9 repAt_9 repSet_9 sizes_rep shapes_rep fits_rep zero_rep zt_rep built_rep Try.underlying48 blobPs_0 blobAt_0 blobSet_0 blobPs_1 blobAt_1 blobSet_1 blobPs_2 blobAt_2 blobSet_2 blobPs_3 blobAt_3 blobSet_3 sizes_blob shapes_blob fits_blob zero_blob zt_blob built_blob Try.underlying50 msgPs_0 msgAt_0 msgSet_0 msgPs_1 msgAt_1 msgSet_1 msgPs_2 msgAt_2 msgSet_2 msgPs_3 msgAt_3 msgSet_3 msgPs_4 msgAt_4 msgSet_4 msgPs_5 msgAt_5 msgSet_5 msgPs_6 msgAt_6 msgSet_6 msgPs_7 msgAt_7 msgSet_7 msgPs_8 msgAt_8 msgSet_8 msgPs_9 msgAt_9 msgSet_9 sizes_msg shapes_msg fits_msg zero_msg zt_msg built_msg Try.underlying53 at_Ps_0 at_Set_0 at_Ps_1 at_Set_1 sizes_at_ shapes_at_
attribute [local go_sem] fits3 fits4 fits5 fits9 fits23 fits26 fits31 fits34 fits52 zt3 zero3 zt34 zero34 zt23 zero23 bin_sub_eql bin_pend_eql bin_pend_neq bin_blob_eql bin_dig23_eql bin_dig23_neq slice23
attribute [local go_sem ↓] blockQ_exit2
attribute [local simp] dig_ext
attribute [local go_sem] postPs_0 postAt_0 postSet_0 postPs_1 postAt_1 postSet_1 postPs_2 postAt_2 postSet_2 sizes_post shapes_post fits_post zero_post zt_post built_post Try.underlying34 keyPs_0 keyAt_0 keySet_0 keyPs_1 keyAt_1 keySet_1 keyPs_2 keyAt_2 keySet_2 sizes_key shapes_key fits_key zero_key zt_key built_key Try.underlying74 conPs_0 conAt_0 conSet_0 conPs_1 conAt_1 conSet_1 sizes_con shapes_con fits_con zero_con zt_con built_con Try.underlying76 Try.underlying22 Try.underlying24 Try.underlying25 Try.underlying27 Try.underlying30 Try.underlying51 Try.underlying99 Try.underlying101 Try.underlying102 Try.underlying104
/-- Posts of commits whose views are beginnings of h. -/
def Begs (h : List UInt8) (l : List Post) : Prop := ∀ p ∈ l, ∃ v, view1 p = [v] ∧ v <+: h
theorem begs_fit {h : List UInt8} {l : List Post} (hb : Begs h l) : allFit (vwsV l) := by
  have key : ∀ x ∈ vwsV l, L09.goes h x = true := fun x hx => by
    simp only [vwsV, List.mem_flatMap] at hx
    obtain ⟨p, hp, hx⟩ := hx
    obtain ⟨v, hv, hpre⟩ := hb p hp
    rw [hv] at hx; simp at hx; subst hx
    simpa [L09.goes] using hpre
  exact fun x hx y hy => L09.goes_fit (key x hx) (key y hy)
theorem begs_add {h : List UInt8} {l : List Post} {p : Post} {v : List UInt8} (hb : Begs h l) (hv : view1 p = [v]) (hp : v <+: h) : Begs h (l ++ [p]) := fun q hq => by
  rcases List.mem_append.1 hq with hq | hq
  · exact hb q hq
  · simp at hq; subst hq; exact ⟨v, hv, hp⟩
theorem view_of {p : Post} {m : Msg} (h : getR p.b = (m, 0)) (hm : comM32 m) : view1 p = [m.view] := by
  unfold view1; rw [h]; simp [hm]
def cmv (c : Int) (v : List UInt8) : Msg := { msg0 with kind := 3, client := c, view := v }
def vmv (c : Int) (v : List UInt8) : Msg := { msg0 with kind := 10, by_ := c, view := v }
theorem cmv_ok {c : Int} {v : List UInt8} (hc : In 0 7 c) (h0 : v ≠ []) (hv : ∀ b ∈ v, (b.toNat : Int) < 8) (hl : v.length ≤ 512) : (cmv c v).Ok :=
  ⟨by simp only [Msg.FieldsOk, cmv, ViewOk]; simp; exact ⟨h0, fun b hb => by have := hv b hb; omega, hl⟩, by simpa [cmv] using hc, by simp [Msg.own_, cmv, msg0]⟩
theorem vmv_ok {c : Int} {v : List UInt8} (hc : In 0 7 c) (h0 : v ≠ []) (hv : ∀ b ∈ v, (b.toNat : Int) < 8) (hl : v.length ≤ 512) : (vmv c v).Ok :=
  ⟨by simp only [Msg.FieldsOk, vmv, ViewOk]; simp; exact ⟨hc, h0, fun b hb => by have := hv b hb; omega, hl⟩, by simp [vmv, msg0, In], by simp [Msg.own_, vmv, msg0]⟩
theorem not_fit {a : List UInt8} {c d : UInt8} (h : c ≠ d) : L09.fit (a ++ [c]) (a ++ [d]) = false := by
  simp only [L09.fit, decide_eq_false_iff_not]
  rintro (h1 | h1)
  · have := h1.eq_of_length (by simp); simp at this; exact h this.symm
  · have := h1.eq_of_length (by simp); simp at this; exact h this
theorem nth_u8 {l : List UInt8} {i : Nat} {y : UInt8} {F : AV → Prop} (h : l[i]? = some y) (hF : F (.int .u8 y.toNat)) : nthW (u8s l) (i : Int) (@LamA _ ⟨F⟩) := by
  have hl := (List.getElem?_eq_some_iff.1 h).1
  refine ⟨by omega, by simp [u8s]; omega, fun x hx => ?_⟩
  simp only [Int.toNat_natCast, u8s, List.getElem?_map, h, Option.map_some, Option.some.injEq] at hx
  subst hx; exact hF
theorem build_u8 {KV : AV → Prop} {y : UInt8} (h : KV (.slice .full (u8s [y]))) : buildSliceW Try.prog 37 1 [(0, .int .u8 y.toNat)] KV :=
  build_slice E51 rfl (by decide) (by simp [go_sem, fits_leaf (P := Try.prog) (t := 5) L01.agg5 (by kernel_rfl)]) (by simpa [u8s] using h)
theorem auditFits_c {h : List UInt8} {cuts : List UInt8} {ta : Tk} {oth : UInt8} {σ : AST} {K : AV → AST → Prop} (hK : K (.bool true) σ) : TCalls Try.prog 6 [.str h, .slice ta (u8s cuts), .int .u8 oth.toNat] σ K := by
  refine TCalls.drop ?_
  have hfin0 : Ext σ σ ∧ (AV.bool true).noRef = true ∧ K (AV.bool true).strip σ := ⟨Ext.refl _, rfl, by simpa [AV.strip] using hK⟩
  refine tcalls_walk Try.f6 _ [.tmp 6] Try.func6 rfl rfl rfl mixed (Nat.le_of_ble_eq_true rfl) rfl fun hlen => ?_
  have hlh : h.length ≤ 9223372036854775807 := hlen (.str h) (by simp)
  by_cases h0 : h.length = 0
  · have e0 : ((h.length : Int) == 0) = true := by simp [h0]
    repeat' (first | (simp -dsimp only [↓reduceIte, go_sem, e0]) | (refine arr_intro fun _ => ?_) | (refine later_intro ⟨keeps_nil, ?_⟩) | (refine later_intro ⟨keeps_refl, ?_⟩) | (with_reducible refine keeps_go ?_ ?_; focus (first | (simp [keeps_cons, keeps_none, objs_app, objs_app0]; done) | (simp only [keeps_cons, keeps_none, objs_app0, objs_app, and_true]; first | rfl | exact ⟨rfl, rfl⟩ | exact ⟨rfl, rfl, rfl⟩))) | (with_reducible refine (And.intro (a := keeps _ _ _) ?_ ?_); focus (first | (simp [keeps_cons, keeps_none, objs_app, objs_app0]; done) | (simp only [keeps_cons, keeps_none, objs_app0, objs_app, and_true]; first | rfl | exact ⟨rfl, rfl⟩ | exact ⟨rfl, rfl, rfl⟩))) | (refine both_ways ?_ ?_) | (rw [wrap_i64 (by omega) (by omega)]) | (refine guardV_split (fun h => ?_) (fun h => ?_) <;> (try rw [h]) <;> (try simp at h) <;> (try (exfalso; omega))) | ((refine awake_c ?_)))
    exact hfin0
  have e0 : ((h.length : Int) == 0) = false := by simp; intro e; exact h0 (by rw [e]; rfl)
  by_cases h60 : 60 < h.length
  · have e1 : decide ((h.length : Int) > 60) = true := by simp; omega
    repeat' (first | (simp -dsimp only [↓reduceIte, go_sem, e0, e1]) | (refine arr_intro fun _ => ?_) | (refine later_intro ⟨keeps_nil, ?_⟩) | (refine later_intro ⟨keeps_refl, ?_⟩) | (with_reducible refine keeps_go ?_ ?_; focus (first | (simp [keeps_cons, keeps_none, objs_app, objs_app0]; done) | (simp only [keeps_cons, keeps_none, objs_app0, objs_app, and_true]; first | rfl | exact ⟨rfl, rfl⟩ | exact ⟨rfl, rfl, rfl⟩))) | (with_reducible refine (And.intro (a := keeps _ _ _) ?_ ?_); focus (first | (simp [keeps_cons, keeps_none, objs_app, objs_app0]; done) | (simp only [keeps_cons, keeps_none, objs_app0, objs_app, and_true]; first | rfl | exact ⟨rfl, rfl⟩ | exact ⟨rfl, rfl, rfl⟩))) | (refine both_ways ?_ ?_) | (rw [wrap_i64 (by omega) (by omega)]) | (refine guardV_split (fun h => ?_) (fun h => ?_) <;> (try rw [h]) <;> (try simp at h) <;> (try (exfalso; omega))) | ((refine awake_c ?_)))
    exact hfin0
  have e1 : decide ((h.length : Int) > 60) = false := by simp; omega
  cases hr : L09.right h 8 with
  | false =>
    repeat' (first | (simp -dsimp only [↓reduceIte, go_sem, e0, e1, hr]) | (refine arr_intro fun _ => ?_) | (refine later_intro ⟨keeps_nil, ?_⟩) | (refine later_intro ⟨keeps_refl, ?_⟩) | (with_reducible refine keeps_go ?_ ?_; focus (first | (simp [keeps_cons, keeps_none, objs_app, objs_app0]; done) | (simp only [keeps_cons, keeps_none, objs_app0, objs_app, and_true]; first | rfl | exact ⟨rfl, rfl⟩ | exact ⟨rfl, rfl, rfl⟩))) | (with_reducible refine (And.intro (a := keeps _ _ _) ?_ ?_); focus (first | (simp [keeps_cons, keeps_none, objs_app, objs_app0]; done) | (simp only [keeps_cons, keeps_none, objs_app0, objs_app, and_true]; first | rfl | exact ⟨rfl, rfl⟩ | exact ⟨rfl, rfl, rfl⟩))) | (refine both_ways ?_ ?_) | (rw [wrap_i64 (by omega) (by omega)]) | (refine guardV_split (fun h => ?_) (fun h => ?_) <;> (try rw [h]) <;> (try simp at h) <;> (try (exfalso; omega))) | ((refine awake_c ?_)) | ((refine Go.Aff.L09.Right_c (by decide) (by decide) ?_)))
    exact hfin0
  | true =>
    repeat' (first | (simp -dsimp only [↓reduceIte, go_sem, e0, e1, hr]) | (refine arr_intro fun _ => ?_) | (refine later_intro ⟨keeps_nil, ?_⟩) | (refine later_intro ⟨keeps_refl, ?_⟩) | (with_reducible refine keeps_go ?_ ?_; focus (first | (simp [keeps_cons, keeps_none, objs_app, objs_app0]; done) | (simp only [keeps_cons, keeps_none, objs_app0, objs_app, and_true]; first | rfl | exact ⟨rfl, rfl⟩ | exact ⟨rfl, rfl, rfl⟩))) | (with_reducible refine (And.intro (a := keeps _ _ _) ?_ ?_); focus (first | (simp [keeps_cons, keeps_none, objs_app, objs_app0]; done) | (simp only [keeps_cons, keeps_none, objs_app0, objs_app, and_true]; first | rfl | exact ⟨rfl, rfl⟩ | exact ⟨rfl, rfl, rfl⟩))) | (refine both_ways ?_ ?_) | (rw [wrap_i64 (by omega) (by omega)]) | (refine guardV_split (fun h => ?_) (fun h => ?_) <;> (try rw [h]) <;> (try simp at h) <;> (try (exfalso; omega))) | ((refine awake_c ?_)) | ((refine Go.Aff.L09.Right_c (by decide) (by decide) ?_)))
    have hin : ∀ b ∈ h, (b.toNat : Int) < 8 := by
      have := hr
      unfold L09.right at this
      simp only [Bool.and_eq_true, List.all_eq_true, decide_eq_true_eq] at this
      exact this.1
    have hul : (u8s cuts).length = cuts.length := by simp [u8s]
    have hcl : cuts.length ≤ 9223372036854775807 := by
      have := hlen (.slice ta (u8s cuts)) (by simp)
      simp only [lenOk, hul, maxL] at this; exact this
    refine awp_rounds (fun (i : Nat) τ s => ∃ tl l, i ≤ cuts.length ∧ i ≤ 12 ∧ Begs h l ∧ l.length = i ∧ Gr σ s tl l.length 3 ∧ τ 0 = .str h ∧ τ 1 = .slice ta (u8s cuts) ∧ τ 2 = .int .u8 oth.toNat ∧ τ 7 = .slice tl (l.map postV) ∧ τ 8 = .int .i64 i) (fun i => 12 - i) 0 ?_ ?_
    · refine ⟨.full, [], by omega, by omega, (fun p hp => by cases hp), rfl, Gr.start, ?_, ?_, ?_, ?_, ?_⟩ <;> (try simp only [go_sem]) <;> (try rfl)
    · rintro i τ s ⟨tl, l, hi, hi12, hbg, hll, hg, t0, t1, t2, t7, t8⟩
      by_cases hlt : i < cuts.length ∧ i < 12
      · have hlt1 : (i : Int) < cuts.length := by omega
        have hlt2 : (i : Int) < 12 := by omega
        obtain ⟨b, hb, _⟩ := get_of_lt hlt.1
        have hbt := b.toNat_lt
        have w1 : IntKind.i64.wrap (b.toNat : Int) = b.toNat := wrap_i64 (by omega) (by omega)
        have hne : ¬ (h.length : Int) = 0 := by omega
        have hmod := Nat.mod_lt b.toNat (show 0 < h.length by omega)
        have w2 : (b.toNat : Int).tmod (h.length : Int) = ((b.toNat % h.length : Nat) : Int) := by rw [← Int.ofNat_tmod]
        generalize hk : b.toNat % h.length = k at *
        have w3 : IntKind.i64.wrap ((k : Int) + 1) = ((k + 1 : Nat) : Int) := by rw [wrap_i64 (by omega) (by omega)]; simp
        have hvl : (h.take (k + 1)).length = k + 1 := by rw [List.length_take]; omega
        obtain ⟨c, hc⟩ : ∃ c, (h.take (k + 1))[k]? = some c := ⟨_, List.getElem?_eq_getElem (by omega)⟩
        have hcm : c ∈ h := List.mem_of_mem_take (List.mem_of_getElem? hc)
        have hc8 := hin c hcm
        have w4 : IntKind.i64.wrap (((k + 1 : Nat) : Int) - 1) = (k : Int) := by rw [wrap_i64 (by omega) (by omega)]; omega
        have w4' : ((k + 1 : Nat) : Int) - 1 = (k : Int) := by omega
        have w5 : IntKind.i64.wrap (c.toNat : Int) = c.toNat := wrap_i64 (by omega) (by omega)
        have hpre : h.take (k + 1) <+: h := List.take_prefix _ _
        have hvin : ∀ b ∈ h.take (k + 1), (b.toNat : Int) < 8 := fun b hb => hin b (List.mem_of_mem_take hb)
        have hkl : k + 1 ≤ h.length := by omega
        repeat' (first | (simp -dsimp only [↓reduceIte, go_sem, t0, t1, t2, t7, t8, hul, hlt1, hlt2, w1, w2, w3, hne]) | (refine arr_intro fun _ => ?_) | (refine later_intro ⟨keeps_nil, ?_⟩) | (refine later_intro ⟨keeps_refl, ?_⟩) | (with_reducible refine keeps_go ?_ ?_; focus (first | (simp [keeps_cons, keeps_none, objs_app, objs_app0]; done) | (simp only [keeps_cons, keeps_none, objs_app0, objs_app, and_true]; first | rfl | exact ⟨rfl, rfl⟩ | exact ⟨rfl, rfl, rfl⟩))) | (with_reducible refine (And.intro (a := keeps _ _ _) ?_ ?_); focus (first | (simp [keeps_cons, keeps_none, objs_app, objs_app0]; done) | (simp only [keeps_cons, keeps_none, objs_app0, objs_app, and_true]; first | rfl | exact ⟨rfl, rfl⟩ | exact ⟨rfl, rfl, rfl⟩))) | (refine both_ways ?_ ?_) | (rw [wrap_i64 (by omega) (by omega)]) | (refine guardV_split (fun h => ?_) (fun h => ?_) <;> (try rw [h]) <;> (try simp at h) <;> (try (exfalso; omega))) | (refine nth_u8 hb ?_) | ((with_reducible refine side_later (by omega) ?_)))
        generalize h.take (k + 1) = v at *
        have hvne : v ≠ [] := fun e => by rw [e] at hvl; simp at hvl
        have hok : (cmv c.toNat v).Ok := cmv_ok ⟨by omega, by omega⟩ hvne hvin (by omega)
        have e2 : (⟨3, (c.toNat : Int), msg0.sub, msg0.rep, v, msg0.by_, msg0.tag, msg0.own, msg0.blob, msg0.nums⟩ : Msg) = cmv c.toNat v := rfl
        have hgb := get_back hok
        have hpv : ∀ a b, view1 ⟨a, b, (cmv c.toNat v).bytes⟩ = [v] := fun a b => view_of (p := ⟨a, b, (cmv c.toNat v).bytes⟩) (m := cmv c.toNat v) hgb (.inl rfl)
        generalize hm : cmv c.toNat v = m at *
        have hb2 : Begs h (l ++ [⟨post0.frm, post0.to, m.bytes⟩]) := begs_add hbg (hpv post0.frm post0.to) hpre
        have hl2 : (l ++ [(⟨post0.frm, post0.to, m.bytes⟩ : Post)]).length = i + 1 := by rw [List.length_append, hll]; rfl
        repeat' (first | (simp -dsimp only [↓reduceIte, go_sem, t0, t1, t2, t7, t8, hvl, w4, w4', w5, e2, hok]) | (refine arr_intro fun _ => ?_) | (refine later_intro ⟨keeps_nil, ?_⟩) | (refine later_intro ⟨keeps_refl, ?_⟩) | (with_reducible refine keeps_go ?_ ?_; focus (first | (simp [keeps_cons, keeps_none, objs_app, objs_app0]; done) | (simp only [keeps_cons, keeps_none, objs_app0, objs_app, and_true]; first | rfl | exact ⟨rfl, rfl⟩ | exact ⟨rfl, rfl, rfl⟩))) | (with_reducible refine (And.intro (a := keeps _ _ _) ?_ ?_); focus (first | (simp [keeps_cons, keeps_none, objs_app, objs_app0]; done) | (simp only [keeps_cons, keeps_none, objs_app0, objs_app, and_true]; first | rfl | exact ⟨rfl, rfl⟩ | exact ⟨rfl, rfl, rfl⟩))) | (refine both_ways ?_ ?_) | (rw [wrap_i64 (by omega) (by omega)]) | (refine guardV_split (fun h => ?_) (fun h => ?_) <;> (try rw [h]) <;> (try simp at h) <;> (try (exfalso; omega))) | (refine nth_get hc ?_) | ((refine put_c ?_)) | (refine build_slice E22 rfl (by decide) (by intro v hv; simp at hv; subst hv; simp [go_sem]) ?_) | (refine append_post hg.c (by omega) ?_))
        refine later_intro ⟨i + 1, by omega, growT s tl, l ++ [⟨post0.frm, post0.to, m.bytes⟩], by omega, by omega, hb2, hl2, ?_, ?_, ?_, ?_, ?_, ?_⟩ <;> (try simp only [go_sem, t0, t1, t2, t7, t8]) <;> (try rfl)
        · have := hg.grow (m := l.length + 1)
          simpa using this
      · have hn12 : (¬ (i : Int) < cuts.length ∧ True) ∨ ((i : Int) < cuts.length ∧ ¬ (i : Int) < 12) := by
          by_cases h : (i : Int) < cuts.length
          · exact .inr ⟨h, by omega⟩
          · exact .inl ⟨h, trivial⟩
        have hll12 : l.length ≤ 12 := by omega
        have hfl := begs_fit hbg
        have hhne : h ≠ [] := fun e => h0 (by rw [e]; rfl)
        -- the history itself
        have hokh : (cmv 0 h).Ok := cmv_ok ⟨by omega, by omega⟩ hhne hin (by omega)
        have e2 : (⟨3, msg0.client, msg0.sub, msg0.rep, h, msg0.by_, msg0.tag, msg0.own, msg0.blob, msg0.nums⟩ : Msg) = cmv 0 h := rfl
        have hvh : view1 ⟨post0.frm, post0.to, (cmv 0 h).bytes⟩ = [h] := view_of (p := ⟨post0.frm, post0.to, (cmv 0 h).bytes⟩) (m := cmv 0 h) (get_back hokh) (.inl rfl)
        have hb2 : Begs h (l ++ [⟨post0.frm, post0.to, (cmv 0 h).bytes⟩]) := begs_add hbg hvh (List.prefix_refl _)
        have hf2 := begs_fit hb2
        generalize hm : cmv 0 h = m at *
        obtain ⟨a, x, hax⟩ : ∃ a x, h = a ++ [x] := ⟨h.dropLast, h.getLast hhne, (List.dropLast_concat_getLast hhne).symm⟩
        have hal : h.length = a.length + 1 := by rw [hax]; simp
        have hxg : h[a.length]? = some x := by rw [hax]; simp
        have hx8 := hin x (by rw [hax]; simp)
        have hta : h.take a.length = a := by rw [hax]; simp
        have w1 : ((h.length : Nat) : Int) - 1 = (a.length : Nat) := by omega
        have w2 : IntKind.i64.wrap (((h.length : Nat) : Int) - 1) = (a.length : Nat) := by rw [wrap_i64 (by omega) (by omega)]; omega
        have hot := oth.toNat_lt
        obtain ⟨y0, hy0⟩ : ∃ y : UInt8, y.toNat = oth.toNat % 8 := ⟨oth % 8, by rw [UInt8.toNat_mod]; rfl⟩
        obtain ⟨y1, hy1⟩ : ∃ y : UInt8, y.toNat = (y0.toNat + 1) % 8 := ⟨(y0 + 1) % 8, by rw [UInt8.toNat_mod, UInt8.toNat_add]; show (y0.toNat + 1) % 256 % 8 = _; omega⟩
        have w3 : (oth.toNat : Int).tmod 8 = (y0.toNat : Int) := by rw [show (8 : Int) = ((8 : Nat) : Int) from rfl, ← Int.ofNat_tmod, hy0]
        have w5 : IntKind.u8.wrap ((y0.toNat : Int) + 1) = ((y0.toNat + 1 : Nat) : Int) := by rw [wrap_u8 (by omega) (by omega)]; simp
        have w6 : ((y0.toNat + 1 : Nat) : Int).tmod 8 = (y1.toNat : Int) := by rw [show (8 : Int) = ((8 : Nat) : Int) from rfl, ← Int.ofNat_tmod, hy1]
        have hfinal : ∀ s', Ext σ s' → Ext σ s' ∧ (AV.bool true).noRef = true ∧ K (AV.bool true).strip σ := fun s' hx => ⟨hx, rfl, by simpa [AV.strip] using hK⟩
        rcases hn12 with ⟨hlt1, hlt2⟩ | ⟨hlt1, hlt2⟩
        all_goals
          by_cases hq : y0.toNat = x.toNat
          · have hq : ((y0.toNat : Int) == (x.toNat : Int)) = true := by simp [hq]
            have y8 : y1.toNat < 8 := by omega
            have hyx : y1 ≠ x := fun e => by subst e; first | (simp at hq; done) | omega
            have wy : IntKind.i64.wrap (y1.toNat : Int) = y1.toNat := wrap_i64 (by omega) (by omega)
            have hokd : (vmv y1.toNat (a ++ [y1])).Ok := vmv_ok ⟨by omega, by omega⟩ (by simp) (fun b hb => by
              rcases List.mem_append.1 hb with hb | hb
              · exact hin b (by rw [hax]; exact List.mem_append_left _ hb)
              · simp at hb; subst hb; omega) (by simp; omega)
            have e3 : (⟨10, msg0.client, msg0.sub, msg0.rep, a ++ [y1], (y1.toNat : Int), msg0.tag, msg0.own, msg0.blob, msg0.nums⟩ : Msg) = vmv y1.toNat (a ++ [y1]) := rfl
            have hvd : view1 ⟨post0.frm, post0.to, (vmv y1.toNat (a ++ [y1])).bytes⟩ = [a ++ [y1]] := view_of (p := ⟨post0.frm, post0.to, (vmv y1.toNat (a ++ [y1])).bytes⟩) (m := vmv y1.toNat (a ++ [y1])) (get_back hokd) (.inr rfl)
            generalize hd : vmv y1.toNat (a ++ [y1]) = d at *
            have hfn : ¬ allFit (vwsV ((l ++ [⟨post0.frm, post0.to, m.bytes⟩]) ++ [⟨post0.frm, post0.to, d.bytes⟩])) := fun hall => by
              rw [vwsV_app, vwsV_app] at hall
              have m1 : h ∈ (vwsV l ++ vwsV [⟨post0.frm, post0.to, m.bytes⟩]) ++ vwsV [⟨post0.frm, post0.to, d.bytes⟩] := by simp [vwsV, hvh]
              have m2 : (a ++ [y1]) ∈ (vwsV l ++ vwsV [⟨post0.frm, post0.to, m.bytes⟩]) ++ vwsV [⟨post0.frm, post0.to, d.bytes⟩] := by simp [vwsV, hvd]
              have := hall _ m1 _ m2
              rw [hax, not_fit (Ne.symm hyx)] at this; cases this
            repeat' (first | (simp -dsimp only [↓reduceIte, go_sem, t0, t1, t2, t7, t8, hul, hlt1, hlt2, hfl, decide_true, e2, hokh, w1, w2, w3, w5, w6, hq, wy]) | (refine arr_intro fun _ => ?_) | (refine later_intro ⟨keeps_nil, ?_⟩) | (refine later_intro ⟨keeps_refl, ?_⟩) | (with_reducible refine keeps_go ?_ ?_; focus (first | (simp [keeps_cons, keeps_none, objs_app, objs_app0]; done) | (simp only [keeps_cons, keeps_none, objs_app0, objs_app, and_true]; first | rfl | exact ⟨rfl, rfl⟩ | exact ⟨rfl, rfl, rfl⟩))) | (with_reducible refine (And.intro (a := keeps _ _ _) ?_ ?_); focus (first | (simp [keeps_cons, keeps_none, objs_app, objs_app0]; done) | (simp only [keeps_cons, keeps_none, objs_app0, objs_app, and_true]; first | rfl | exact ⟨rfl, rfl⟩ | exact ⟨rfl, rfl, rfl⟩))) | (refine both_ways ?_ ?_) | (rw [wrap_i64 (by omega) (by omega)]) | (refine guardV_split (fun h => ?_) (fun h => ?_) <;> (try rw [h]) <;> (try simp at h) <;> (try (exfalso; omega))) | ((refine fits_c (by omega) fun s9 hx9 => ?_)) | ((refine put_c ?_)) | (refine build_slice E22 rfl (by decide) (by intro v hv; simp at hv; subst hv; simp [go_sem]) ?_) | (refine append_post (canApp_keep hx9 hg.c) (by omega) ?_) | (refine nth_get hxg ?_))
            repeat' (first | (simp -dsimp only [↓reduceIte, go_sem, t0, hta, w1, w2, wy, e3, hokd]) | (refine arr_intro fun _ => ?_) | (refine later_intro ⟨keeps_nil, ?_⟩) | (refine later_intro ⟨keeps_refl, ?_⟩) | (with_reducible refine keeps_go ?_ ?_; focus (first | (simp [keeps_cons, keeps_none, objs_app, objs_app0]; done) | (simp only [keeps_cons, keeps_none, objs_app0, objs_app, and_true]; first | rfl | exact ⟨rfl, rfl⟩ | exact ⟨rfl, rfl, rfl⟩))) | (with_reducible refine (And.intro (a := keeps _ _ _) ?_ ?_); focus (first | (simp [keeps_cons, keeps_none, objs_app, objs_app0]; done) | (simp only [keeps_cons, keeps_none, objs_app0, objs_app, and_true]; first | rfl | exact ⟨rfl, rfl⟩ | exact ⟨rfl, rfl, rfl⟩))) | (refine both_ways ?_ ?_) | (rw [wrap_i64 (by omega) (by omega)]) | (refine guardV_split (fun h => ?_) (fun h => ?_) <;> (try rw [h]) <;> (try simp at h) <;> (try (exfalso; omega))) | (with_reducible refine awp_drawS (id := 19) [0, 1, 2, 3, 4, 5, 6, 7, 8, 9, 10, 11, 12, 13, 14, 15, 16, 17] (by kernel_rfl) ?_) | ((with_reducible refine side_later (by omega) ?_)) | (refine build_u8 ?_) | ((refine put_c ?_)))
            repeat' (first | (simp -dsimp only [↓reduceIte, go_sem, t0, t1, t2, t7, t8, hf2, hfn, decide_true, decide_false]) | (refine arr_intro fun _ => ?_) | (refine later_intro ⟨keeps_nil, ?_⟩) | (refine later_intro ⟨keeps_refl, ?_⟩) | (with_reducible refine keeps_go ?_ ?_; focus (first | (simp [keeps_cons, keeps_none, objs_app, objs_app0]; done) | (simp only [keeps_cons, keeps_none, objs_app0, objs_app, and_true]; first | rfl | exact ⟨rfl, rfl⟩ | exact ⟨rfl, rfl, rfl⟩))) | (with_reducible refine (And.intro (a := keeps _ _ _) ?_ ?_); focus (first | (simp [keeps_cons, keeps_none, objs_app, objs_app0]; done) | (simp only [keeps_cons, keeps_none, objs_app0, objs_app, and_true]; first | rfl | exact ⟨rfl, rfl⟩ | exact ⟨rfl, rfl, rfl⟩))) | (refine both_ways ?_ ?_) | (rw [wrap_i64 (by omega) (by omega)]) | (refine guardV_split (fun h => ?_) (fun h => ?_) <;> (try rw [h]) <;> (try simp at h) <;> (try (exfalso; omega))) | ((refine fits_c (by simp; omega) fun s10 hx10 => ?_)) | (refine build_slice E22 rfl (by decide) (by intro v hv; simp at hv; try (subst hv; simp [go_sem])) ?_) | (refine append_pnone (by simp; omega) ?_) | (refine append_post canGrow (by simp; omega) ?_))
            have q1 := ((hg.x.trans hx9).grow (n := l.length + 1) (es := 3) hg.t).trans ‹Ext (growS s9 tl (l.length + 1) 3) _›
            rw [growFull] at hx10
            exact hfinal _ ((q1.trans (Ext.growFull _ _ _)).trans hx10)
          · have hq : ((y0.toNat : Int) == (x.toNat : Int)) = false := by simp; omega
            have y8 : y0.toNat < 8 := by omega
            have hyx : y0 ≠ x := fun e => by subst e; first | (simp at hq; done) | omega
            have wy : IntKind.i64.wrap (y0.toNat : Int) = y0.toNat := wrap_i64 (by omega) (by omega)
            have hokd : (vmv y0.toNat (a ++ [y0])).Ok := vmv_ok ⟨by omega, by omega⟩ (by simp) (fun b hb => by
              rcases List.mem_append.1 hb with hb | hb
              · exact hin b (by rw [hax]; exact List.mem_append_left _ hb)
              · simp at hb; subst hb; omega) (by simp; omega)
            have e3 : (⟨10, msg0.client, msg0.sub, msg0.rep, a ++ [y0], (y0.toNat : Int), msg0.tag, msg0.own, msg0.blob, msg0.nums⟩ : Msg) = vmv y0.toNat (a ++ [y0]) := rfl
            have hvd : view1 ⟨post0.frm, post0.to, (vmv y0.toNat (a ++ [y0])).bytes⟩ = [a ++ [y0]] := view_of (p := ⟨post0.frm, post0.to, (vmv y0.toNat (a ++ [y0])).bytes⟩) (m := vmv y0.toNat (a ++ [y0])) (get_back hokd) (.inr rfl)
            generalize hd : vmv y0.toNat (a ++ [y0]) = d at *
            have hfn : ¬ allFit (vwsV ((l ++ [⟨post0.frm, post0.to, m.bytes⟩]) ++ [⟨post0.frm, post0.to, d.bytes⟩])) := fun hall => by
              rw [vwsV_app, vwsV_app] at hall
              have m1 : h ∈ (vwsV l ++ vwsV [⟨post0.frm, post0.to, m.bytes⟩]) ++ vwsV [⟨post0.frm, post0.to, d.bytes⟩] := by simp [vwsV, hvh]
              have m2 : (a ++ [y0]) ∈ (vwsV l ++ vwsV [⟨post0.frm, post0.to, m.bytes⟩]) ++ vwsV [⟨post0.frm, post0.to, d.bytes⟩] := by simp [vwsV, hvd]
              have := hall _ m1 _ m2
              rw [hax, not_fit (Ne.symm hyx)] at this; cases this
            repeat' (first | (simp -dsimp only [↓reduceIte, go_sem, t0, t1, t2, t7, t8, hul, hlt1, hlt2, hfl, decide_true, e2, hokh, w1, w2, w3, w5, w6, hq, wy]) | (refine arr_intro fun _ => ?_) | (refine later_intro ⟨keeps_nil, ?_⟩) | (refine later_intro ⟨keeps_refl, ?_⟩) | (with_reducible refine keeps_go ?_ ?_; focus (first | (simp [keeps_cons, keeps_none, objs_app, objs_app0]; done) | (simp only [keeps_cons, keeps_none, objs_app0, objs_app, and_true]; first | rfl | exact ⟨rfl, rfl⟩ | exact ⟨rfl, rfl, rfl⟩))) | (with_reducible refine (And.intro (a := keeps _ _ _) ?_ ?_); focus (first | (simp [keeps_cons, keeps_none, objs_app, objs_app0]; done) | (simp only [keeps_cons, keeps_none, objs_app0, objs_app, and_true]; first | rfl | exact ⟨rfl, rfl⟩ | exact ⟨rfl, rfl, rfl⟩))) | (refine both_ways ?_ ?_) | (rw [wrap_i64 (by omega) (by omega)]) | (refine guardV_split (fun h => ?_) (fun h => ?_) <;> (try rw [h]) <;> (try simp at h) <;> (try (exfalso; omega))) | ((refine fits_c (by omega) fun s9 hx9 => ?_)) | ((refine put_c ?_)) | (refine build_slice E22 rfl (by decide) (by intro v hv; simp at hv; subst hv; simp [go_sem]) ?_) | (refine append_post (canApp_keep hx9 hg.c) (by omega) ?_) | (refine nth_get hxg ?_))
            repeat' (first | (simp -dsimp only [↓reduceIte, go_sem, t0, hta, w1, w2, wy, e3, hokd]) | (refine arr_intro fun _ => ?_) | (refine later_intro ⟨keeps_nil, ?_⟩) | (refine later_intro ⟨keeps_refl, ?_⟩) | (with_reducible refine keeps_go ?_ ?_; focus (first | (simp [keeps_cons, keeps_none, objs_app, objs_app0]; done) | (simp only [keeps_cons, keeps_none, objs_app0, objs_app, and_true]; first | rfl | exact ⟨rfl, rfl⟩ | exact ⟨rfl, rfl, rfl⟩))) | (with_reducible refine (And.intro (a := keeps _ _ _) ?_ ?_); focus (first | (simp [keeps_cons, keeps_none, objs_app, objs_app0]; done) | (simp only [keeps_cons, keeps_none, objs_app0, objs_app, and_true]; first | rfl | exact ⟨rfl, rfl⟩ | exact ⟨rfl, rfl, rfl⟩))) | (refine both_ways ?_ ?_) | (rw [wrap_i64 (by omega) (by omega)]) | (refine guardV_split (fun h => ?_) (fun h => ?_) <;> (try rw [h]) <;> (try simp at h) <;> (try (exfalso; omega))) | (with_reducible refine awp_drawS (id := 19) [0, 1, 2, 3, 4, 5, 6, 7, 8, 9, 10, 11, 12, 13, 14, 15, 16, 17] (by kernel_rfl) ?_) | ((with_reducible refine side_later (by omega) ?_)) | (refine build_u8 ?_) | ((refine put_c ?_)))
            repeat' (first | (simp -dsimp only [↓reduceIte, go_sem, t0, t1, t2, t7, t8, hf2, hfn, decide_true, decide_false]) | (refine arr_intro fun _ => ?_) | (refine later_intro ⟨keeps_nil, ?_⟩) | (refine later_intro ⟨keeps_refl, ?_⟩) | (with_reducible refine keeps_go ?_ ?_; focus (first | (simp [keeps_cons, keeps_none, objs_app, objs_app0]; done) | (simp only [keeps_cons, keeps_none, objs_app0, objs_app, and_true]; first | rfl | exact ⟨rfl, rfl⟩ | exact ⟨rfl, rfl, rfl⟩))) | (with_reducible refine (And.intro (a := keeps _ _ _) ?_ ?_); focus (first | (simp [keeps_cons, keeps_none, objs_app, objs_app0]; done) | (simp only [keeps_cons, keeps_none, objs_app0, objs_app, and_true]; first | rfl | exact ⟨rfl, rfl⟩ | exact ⟨rfl, rfl, rfl⟩))) | (refine both_ways ?_ ?_) | (rw [wrap_i64 (by omega) (by omega)]) | (refine guardV_split (fun h => ?_) (fun h => ?_) <;> (try rw [h]) <;> (try simp at h) <;> (try (exfalso; omega))) | ((refine fits_c (by simp; omega) fun s10 hx10 => ?_)) | (refine build_slice E22 rfl (by decide) (by intro v hv; simp at hv; try (subst hv; simp [go_sem])) ?_) | (refine append_pnone (by simp; omega) ?_) | (refine append_post canGrow (by simp; omega) ?_))
            have q1 := ((hg.x.trans hx9).grow (n := l.length + 1) (es := 3) hg.t).trans ‹Ext (growS s9 tl (l.length + 1) 3) _›
            rw [growFull] at hx10
            exact hfinal _ ((q1.trans (Ext.growFull _ _ _)).trans hx10)
end Go.Aff.L10

/- Layer 32: what an argument's shape says of bytes. -/
namespace Go.Aff.L10
open Go.Proofs Go.Aff Go.Aff.L01 Classical
set_option linter.unusedVariables false
set_option maxRecDepth 20000
theorem sh_byte {n : Nat} {v : AV} (h : ShT Try.prog (n + 1) 5 v) : ∃ y : UInt8, v = .int .u8 y.toNat := by
  obtain ⟨m, rfl, h0, h1⟩ := sh_int (t := 5) Try.underlying5 h
  have e0 : IntKind.u8.min = 0 := rfl
  have e1 : IntKind.u8.max = 255 := rfl
  refine ⟨UInt8.ofNat m.toNat, ?_⟩
  congr 1
  rw [UInt8.toNat_ofNat']
  omega
theorem sh_bytes {n : Nat} {v : AV} (h : ShT Try.prog (n + 2) 37 v) : ∃ (tk : Tk) (l : List UInt8), v = .slice tk (u8s l) := by
  obtain ⟨tk, xs, rfl, e⟩ := sh_slice (n := n + 1) (t := 37) Try.underlying37 h
  obtain ⟨l, rfl, _⟩ := map_of (f := fun b : UInt8 => AV.int .u8 b.toNat) (p := fun _ => True) (fun x hx => by obtain ⟨y, hy⟩ := sh_byte (n := n) (e x hx); exact ⟨y, hy, trivial⟩)
  exact ⟨tk, l, rfl⟩
end Go.Aff.L10

