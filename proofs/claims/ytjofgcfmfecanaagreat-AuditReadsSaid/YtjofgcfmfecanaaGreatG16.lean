import Derived.Test.YtjofgcfmfecanaaGreatG15
import Derived.Test.YtjofgcfmfecanaaGreatG13
import Derived.Test.YtjofgcfmfecanaaGreatG9

set_option linter.unusedSimpArgs false
set_option linter.unusedVariables false

/- Layer 32, walked: what twice does with one post. -/
-- cuts
namespace Go.Aff.L10
open Go.Proofs Go.Aff Go.Aff.L01 Classical
set_option linter.unusedVariables false
set_option linter.unusedSimpArgs false
set_option maxRecDepth 20000
attribute [local go_sem] push_app app_app length_app cellAt_app cellAt_app0 set_app set_app0 objs_app objs_app0 List.cons_append List.nil_append List.length_cons List.length_nil List.getElem?_cons_zero List.getElem?_cons_succ List.set_cons_zero List.set_cons_succ List.length_map
attribute [-go_sem] cellAt_new
attribute [-simp] List.length_flatMap
attribute [local go_sem] Tryz.underlying3 Tryz.underlying4 Tryz.underlying5 Tryz.underlying9 Tryz.underlying39 Tryz.underlying40 Tryz.underlying43 Tryz.underlying25 Tryz.underlying50 Tryz.underlying76 subPs_0 subAt_0 subSet_0 subPs_1 subAt_1 subSet_1 subPs_2 subAt_2 subSet_2 subPs_3 subAt_3 subSet_3 subPs_4 subAt_4 subSet_4 subPs_5 subAt_5 subSet_5 sizes_sub shapes_sub fits_sub zero_sub zt_sub built_sub Tryz.underlying42 pendPs_0 pendAt_0 pendSet_0 pendPs_1 pendAt_1 pendSet_1 pendPs_2 pendAt_2 pendSet_2 pendPs_3 pendAt_3 pendSet_3 pendPs_4 pendAt_4 pendSet_4 pendPs_5 pendAt_5 pendSet_5 sizes_pend shapes_pend fits_pend zero_pend zt_pend built_pend Tryz.underlying104 repPs_0 repAt_0 repSet_0 repPs_1 repAt_1 repSet_1 repPs_2 repAt_2 repSet_2 repPs_3 repAt_3 repSet_3 repPs_4 repAt_4 repSet_4 repPs_5 repAt_5 repSet_5 repPs_6 repAt_6 repSet_6 repPs_7 repAt_7 repSet_7 repPs_8 repAt_8 repSet_8 repPs_9 repAt_9 repSet_9 sizes_rep shapes_rep fits_rep zero_rep zt_rep built_rep Tryz.underlying45 blobPs_0 blobAt_0 blobSet_0 blobPs_1 blobAt_1 blobSet_1 blobPs_2 blobAt_2 blobSet_2 blobPs_3 blobAt_3 blobSet_3 sizes_blob shapes_blob fits_blob zero_blob zt_blob built_blob Tryz.underlying47 msgPs_0 msgAt_0 msgSet_0 msgPs_1 msgAt_1 msgSet_1 msgPs_2 msgAt_2 msgSet_2 msgPs_3 msgAt_3 msgSet_3 msgPs_4 msgAt_4 msgSet_4 msgPs_5 msgAt_5 msgSet_5 msgPs_6 msgAt_6 msgSet_6 msgPs_7 msgAt_7 msgSet_7 msgPs_8 msgAt_8 msgSet_8 msgPs_9 msgAt_9 msgSet_9 sizes_msg shapes_msg fits_msg zero_msg zt_msg built_msg Tryz.underlying49 at_Ps_0 at_Set_0 at_Ps_1 at_Set_1 sizes_at_ shapes_at_
attribute [local go_sem] fits3 fits4 fits5 fits9 fits23 fits26 fits31 fits34 fits52 zt3 zero3 zt34 zero34 zt23 zero23 bin_sub_eql bin_pend_eql bin_pend_neq bin_blob_eql bin_dig23_eql bin_dig23_neq slice23
attribute [local go_sem ↓] blockQ_exit2
attribute [local simp] dig_ext
attribute [local go_sem] postPs_0 postAt_0 postSet_0 postPs_1 postAt_1 postSet_1 postPs_2 postAt_2 postSet_2 sizes_post shapes_post fits_post zero_post zt_post built_post Tryz.underlying38 keyPs_0 keyAt_0 keySet_0 keyPs_1 keyAt_1 keySet_1 keyPs_2 keyAt_2 keySet_2 sizes_key shapes_key fits_key zero_key zt_key built_key Tryz.underlying87 conPs_0 conAt_0 conSet_0 conPs_1 conAt_1 conSet_1 sizes_con shapes_con fits_con zero_con zt_con built_con Tryz.underlying89 Tryz.underlying22 Tryz.underlying28 Tryz.underlying29 Tryz.underlying31 Tryz.underlying24 Tryz.underlying25 Tryz.underlying125 Tryz.underlying127 Tryz.underlying128 Tryz.underlying130
theorem fits79 {f : Fn} {a b : List AV} : fits Tryz.prog 92 (.fn f a b) = True := by rw [fits_leaf (P := Tryz.prog) (t := 92) (by kernel_rfl) (by kernel_rfl)]; simp [AV.isAgg, AV.size]
theorem fits71 {o : Option (Nat × List Nat)} : fits Tryz.prog 84 (.ptr o) = True := by rw [fits_leaf (P := Tryz.prog) (t := 84) (by kernel_rfl) (by kernel_rfl)]; simp [AV.isAgg, AV.size]
theorem fits77 {o : Option (Nat × List Nat)} : fits Tryz.prog 90 (.ptr o) = True := by rw [fits_leaf (P := Tryz.prog) (t := 90) (by kernel_rfl) (by kernel_rfl)]; simp [AV.isAgg, AV.size]
theorem fits22 {tk : Tk} {l : List AV} : fits Tryz.prog 22 (.slice tk l) = True := by rw [fits_leaf (P := Tryz.prog) (t := 22) (by kernel_rfl) (by kernel_rfl)]; simp [AV.isAgg, AV.size]
attribute [local go_sem] fits79 fits71 fits77 fits22
theorem cnt_new {κ : Type} {a b : κ} {L : List (Nat × κ × Int)} {ck : Nat} : cntK b (setK a (cntK a L + 1) (insK a L ck)) = if b = a then cntK a L + 1 else cntK b L := by
  obtain ⟨j, hj⟩ := fnd_ins (a := a) (L := L) (ck := ck)
  rw [cnt_set hj, cnt_ins]
/-- What twice holds, in memory: posts, both counts, the function that counts, how many. -/
structure TS (σ0 s : AST) (ps : List Post) (ta : Tk) (fc : Con → Nat) (fk : Key → Nat) (m : Nat) : Prop where
  x : Ext σ0 s
  ol : s.objs[σ0.objs.length]? = some (.cells (.slice ta (ps.map postV)))
  oc : s.objs[σ0.objs.length + 2]? = some (.cells (.agg [.mp (some (σ0.objs.length + 1))]))
  ok : s.objs[σ0.objs.length + 4]? = some (.cells (.agg [.mp (some (σ0.objs.length + 3))]))
  vc : s.objs[σ0.objs.length + 5]? = some (.cells (.ptr (some (σ0.objs.length + 2, []))))
  vk : s.objs[σ0.objs.length + 6]? = some (.cells (.ptr (some (σ0.objs.length + 4, []))))
  vs : s.objs[σ0.objs.length + 7]? = some (.cells (.fn (.func 38) [] []))
  n : s.objs[σ0.objs.length + 8]? = some (.cells (.int .i64 m))
  pc : ∃ (L : List (Nat × Con × Int)) (ck : Nat), s.objs[σ0.objs.length + 1]? = some (.map (L.map (entV conF)) ck) ∧ ∀ c : Con, cntK c L = (fc c : Nat)
  pk : ∃ (L : List (Nat × Key × Int)) (ck : Nat), s.objs[σ0.objs.length + 3]? = some (.map (L.map (entV keyF)) ck) ∧ ∀ k : Key, cntK k L = (fk k : Nat)
section
variable {σ0 s s' : AST} {ps : List Post} {ta : Tk} {fc : Con → Nat} {fk : Key → Nat} {m : Nat}
theorem TS.ext (h : TS σ0 s ps ta fc fk m) (e : Ext s s') : TS σ0 s' ps ta fc fk m := by
  obtain ⟨L, ck, h1, h2⟩ := h.pc
  obtain ⟨L', ck', h3, h4⟩ := h.pk
  exact ⟨h.x.trans e, ext_known e h.ol, ext_known e h.oc, ext_known e h.ok, ext_known e h.vc, ext_known e h.vk, ext_known e h.vs, ext_known e h.n, ⟨L, ck, ext_known e h1, h2⟩, ⟨L', ck', ext_known e h3, h4⟩⟩
theorem TS.con (h : TS σ0 s ps ta fc fk m) {L : List (Nat × Con × Int)} {ck ck' : Nat} {a : Con} (h2 : ∀ c : Con, cntK c L = (fc c : Nat)) : TS σ0 (s.set (σ0.objs.length + 1) (.map ((setK a (cntK a L + 1) (insK a L ck)).map (entV conF)) ck')) ps ta (fun c => if c = a then fc a + 1 else fc c) fk m := by
  obtain ⟨L', c', h3, h4⟩ := h.pk
  obtain ⟨L0, c0, h5, _⟩ := h.pc
  have hl := (List.getElem?_eq_some_iff.1 h5).1
  refine ⟨h.x.set (by omega), ?_, ?_, ?_, ?_, ?_, ?_, ?_, ⟨_, _, objs_setS' hl, fun c => ?_⟩, L', c', ?_, h4⟩
  · rw [objs_setN' (by omega)]; exact h.ol
  · rw [objs_setN' (by omega)]; exact h.oc
  · rw [objs_setN' (by omega)]; exact h.ok
  · rw [objs_setN' (by omega)]; exact h.vc
  · rw [objs_setN' (by omega)]; exact h.vk
  · rw [objs_setN' (by omega)]; exact h.vs
  · rw [objs_setN' (by omega)]; exact h.n
  · rw [cnt_new, h2, h2]; split <;> simp
  · rw [objs_setN' (by omega)]; exact h3
theorem TS.key (h : TS σ0 s ps ta fc fk m) {L : List (Nat × Key × Int)} {ck ck' : Nat} {a : Key} (h2 : ∀ k : Key, cntK k L = (fk k : Nat)) : TS σ0 (s.set (σ0.objs.length + 3) (.map ((setK a (cntK a L + 1) (insK a L ck)).map (entV keyF)) ck')) ps ta fc (fun c => if c = a then fk a + 1 else fk c) m := by
  obtain ⟨L', c', h3, h4⟩ := h.pc
  obtain ⟨L0, c0, h5, _⟩ := h.pk
  have hl := (List.getElem?_eq_some_iff.1 h5).1
  refine ⟨h.x.set (by omega), ?_, ?_, ?_, ?_, ?_, ?_, ?_, ⟨L', c', ?_, h4⟩, _, _, objs_setS' hl, fun c => ?_⟩
  · rw [objs_setN' (by omega)]; exact h.ol
  · rw [objs_setN' (by omega)]; exact h.oc
  · rw [objs_setN' (by omega)]; exact h.ok
  · rw [objs_setN' (by omega)]; exact h.vc
  · rw [objs_setN' (by omega)]; exact h.vk
  · rw [objs_setN' (by omega)]; exact h.vs
  · rw [objs_setN' (by omega)]; exact h.n
  · rw [objs_setN' (by omega)]; exact h3
  · rw [cnt_new, h2, h2]; split <;> simp
theorem TS.num (h : TS σ0 s ps ta fc fk m) (m' : Nat) : TS σ0 (s.set (σ0.objs.length + 8) (.cells (.int .i64 m'))) ps ta fc fk m' := by
  obtain ⟨L, ck, h1, h2⟩ := h.pc
  obtain ⟨L', ck', h3, h4⟩ := h.pk
  have hl := (List.getElem?_eq_some_iff.1 h.n).1
  refine ⟨h.x.set (by omega), ?_, ?_, ?_, ?_, ?_, ?_, objs_setS' hl, ⟨L, ck, ?_, h2⟩, L', ck', ?_, h4⟩
  · rw [objs_setN' (by omega)]; exact h.ol
  · rw [objs_setN' (by omega)]; exact h.oc
  · rw [objs_setN' (by omega)]; exact h.ok
  · rw [objs_setN' (by omega)]; exact h.vc
  · rw [objs_setN' (by omega)]; exact h.vk
  · rw [objs_setN' (by omega)]; exact h.vs
  · rw [objs_setN' (by omega)]; exact h1
  · rw [objs_setN' (by omega)]; exact h3
end
noncomputable def cntC (V : List (Key × List UInt8)) (c : Con) : Nat := V.countP fun x => decide (x = (c.k, c.b))
abbrev TV (σ0 s : AST) (ps : List Post) (ta : Tk) (V : List (Key × List UInt8)) : Prop := TS σ0 s ps ta (cntC V) (L32.many V) (L32.twos V)
theorem cntC_snoc {V : List (Key × List UInt8)} {a : Con} : cntC (V ++ [(a.k, a.b)]) = fun c => if c = a then cntC V a + 1 else cntC V c := by
  funext c
  unfold cntC
  rw [List.countP_append]
  by_cases e : c = a
  · subst e; simp
  · have : ¬ ((a.k, a.b) = (c.k, c.b)) := fun h => e (by cases c; cases a; simp at h; simp [h])
    simp [e, this]
theorem cntC_pos {V : List (Key × List UInt8)} {a : Con} : 0 < cntC V a ↔ (a.k, a.b) ∈ V := by
  unfold cntC
  rw [List.countP_pos_iff]
  constructor
  · rintro ⟨x, hx, h⟩; have := of_decide_eq_true h; subst this; exact hx
  · intro h; exact ⟨_, h, by simp⟩
theorem cntC_le {V : List (Key × List UInt8)} {a : Con} : cntC V a ≤ V.length := List.countP_le_length
theorem many_le {α β : Type} {V : List (α × β)} {k : α} : L32.many V k ≤ V.length := by
  unfold L32.many
  refine Nat.le_trans List.countP_le_length ?_
  have := L32.countP_sub (p := fun _ => true) (L32.D_nodup (l := V)) (m := V) fun x hx => L32.D_mem.1 hx
  simpa using this
theorem twos_le {α β : Type} : ∀ {V : List (α × β)}, L32.twos V ≤ V.length := by
  intro V
  refine L32.snoc_ind (P := fun V => L32.twos V ≤ V.length) (by simp [L32.twos_nil]) (fun l x ih => ?_) V
  rw [L32.twos_snoc, List.length_append]
  simp only [List.length_singleton]
  split
  · omega
  · split <;> omega
theorem cont_len {p : Post} : (cont1 p).length ≤ 1 := by unfold cont1; split <;> simp
theorem conts_len : ∀ {l : List Post}, (conts l).length ≤ l.length
  | [] => by simp [conts]
  | p :: l => by
    have h1 := conts_len (l := l)
    have h2 := cont_len (p := p)
    have : conts (p :: l) = cont1 p ++ conts l := by simp [conts]
    rw [this, List.length_append, List.length_cons]; omega
theorem twice1_c {σ0 s : AST} {ps : List Post} {ta : Tk} {V : List (Key × List UInt8)} {i : Nat} {p : Post} {t u : Tk} {K : AV → AST → Prop} (h : TV σ0 s ps ta V) (hp : ps[i]? = some p) (hl : V.length ≤ 1000)
    (hK : ∀ s', TV σ0 s' ps ta (V ++ cont1 p) → K (.tuple []) s') :
    TCalls Tryz.prog 39 [.int .i64 i, msgV t u (getR p.b).1, .bool ((getR p.b).2 == 0), .ptr (some (σ0.objs.length + 7, [])), .ptr (some (σ0.objs.length + 5, [])), .ptr (some (σ0.objs.length, [])), .ptr (some (σ0.objs.length + 6, [])), .ptr (some (σ0.objs.length + 8, []))] s K := by
  have hO := fun l => h.ext (Ext.app s l)
  have hle := cell_len h.n
  have c0 := fun l => cellAt_known (hO l).ol
  have c5 := fun l => cellAt_known (hO l).vc
  have c6 := fun l => cellAt_known (hO l).vk
  have c7 := fun l => cellAt_known (hO l).vs
  have c8 := fun l => cellAt_known (hO l).n
  by_cases hc : (getR p.b).2 = 0 ∧ (named (getR p.b).1).2 = true
  · have hcont : cont1 p = [((named (getR p.b).1).1, p.b)] := by unfold cont1; rw [if_pos hc]
    rw [hcont] at hK
    obtain ⟨he, hn⟩ := hc
    generalize ha : (⟨(named (getR p.b).1).1, p.b⟩ : Con) = a
    have hak : a.k = (named (getR p.b).1).1 := by rw [← ha]
    have hab : a.b = p.b := by rw [← ha]
    rw [← hak, ← hab] at hK
    obtain ⟨L, ck, m1, m2⟩ := h.pc
    refine tcalls_walk Tryz.f39 _ [] Tryz.func39 rfl rfl rfl mixed (Nat.le_of_ble_eq_true rfl) rfl fun hlen => ?_
    repeat' (first | (simp -dsimp only [↓reduceIte, go_sem, c0, c5, c6, c7, c8, he, hn]) | (refine arr_intro fun _ => ?_) | (refine later_intro ⟨keeps_nil, ?_⟩) | (refine later_intro ⟨keeps_refl, ?_⟩) | (with_reducible refine keeps_go ?_ ?_; focus (first | (simp [keeps_cons, keeps_none, objs_app, objs_app0]; done) | (simp only [keeps_cons, keeps_none, objs_app0, objs_app, and_true]; first | rfl | exact ⟨rfl, rfl⟩ | exact ⟨rfl, rfl, rfl⟩))) | (with_reducible refine (And.intro (a := keeps _ _ _) ?_ ?_); focus (first | (simp [keeps_cons, keeps_none, objs_app, objs_app0]; done) | (simp only [keeps_cons, keeps_none, objs_app0, objs_app, and_true]; first | rfl | exact ⟨rfl, rfl⟩ | exact ⟨rfl, rfl, rfl⟩))) | (refine both_ways ?_ ?_) | (rw [wrap_i64 (by omega) (by omega)]) | (refine guardV_split (fun h => ?_) (fun h => ?_) <;> (try rw [h]) <;> (try simp at h) <;> (try (exfalso; omega))) | ((refine named_c ?_)) | (with_reducible refine awp_drawT (id := 2) (.op 0 2 (.op 1 2 (.op 2 2 (.op 3 2 (.op 4 2 (.op 5 2 (.op 6 2 (.op 7 2 (.op 8 2 (.op 9 2 (.op 10 2 (.op 11 2 (.op 12 2 (.op 13 2 (.op 14 2 (.op 15 2 (.op 16 1 (.op 17 2 (.op 18 2 .nil))))))))))))))))))) (by kernel_rfl) ?_) | (refine nth_get hp ?_))
    rw [ha]
    have hcn : cntK a L = (cntC V a : Nat) := m2 a
    have hcl := cntC_le (V := V) (a := a)
    have hkl := many_le (V := V) (k := a.k)
    have htl := twos_le (V := V)
    refine addCon_c (hO _).oc (objs_known_app m1 _) (by omega) (by omega) ?_
    rw [hcn]
    have hT := ((hO [.cells (msgV t u (getR p.b).1), .cells (keyV (named (getR p.b).1).1)]).con (a := a) (ck := ck) (ck' := ckK a L ck) m2).ext (Ext.app _ [.cells (conF a)])
    rw [hcn] at hT
    have hb : (((s.app [.cells (msgV t u (getR p.b).1), .cells (keyV (named (getR p.b).1).1)]).set (σ0.objs.length + 1) (.map ((setK a ((cntC V a : Nat) + 1) (insK a L ck)).map (entV conF)) (ckK a L ck))).app [.cells (conF a)]).objs[s.objs.length + 1]? = some (.cells (keyV a.k)) := by
      refine objs_known_app ?_ _
      rw [objs_setN' (by omega), objs_app, hak]; rfl
    generalize AST.app (AST.set _ _ _) _ = s2 at hT hb ⊢
    rw [← cntC_snoc] at hT
    have cb := cellAt_known hb
    have d6 := cellAt_known hT.vk
    by_cases h0 : cntC V a = 0
    · have hnin : ¬ (a.k, a.b) ∈ V := fun hh => by have := cntC_pos.2 hh; omega
      have hgt : decide (((cntC V a : Nat) : Int) + 1 > 1) = false := by simp; omega
      obtain ⟨L', ck', k1, k2⟩ := hT.pk
      have hkn : cntK a.k L' = (L32.many V a.k : Nat) := k2 a.k
      repeat' (first | (simp -dsimp only [↓reduceIte, go_sem, d6, cb, hgt]) | (refine arr_intro fun _ => ?_) | (refine later_intro ⟨keeps_nil, ?_⟩) | (refine later_intro ⟨keeps_refl, ?_⟩) | (with_reducible refine keeps_go ?_ ?_; focus (first | (simp [keeps_cons, keeps_none, objs_app, objs_app0]; done) | (simp only [keeps_cons, keeps_none, objs_app0, objs_app, and_true]; first | rfl | exact ⟨rfl, rfl⟩ | exact ⟨rfl, rfl, rfl⟩))) | (with_reducible refine (And.intro (a := keeps _ _ _) ?_ ?_); focus (first | (simp [keeps_cons, keeps_none, objs_app, objs_app0]; done) | (simp only [keeps_cons, keeps_none, objs_app0, objs_app, and_true]; first | rfl | exact ⟨rfl, rfl⟩ | exact ⟨rfl, rfl, rfl⟩))) | (refine both_ways ?_ ?_) | (rw [wrap_i64 (by omega) (by omega)]) | (refine guardV_split (fun h => ?_) (fun h => ?_) <;> (try rw [h]) <;> (try simp at h) <;> (try (exfalso; omega))))
      refine addKey_c hT.ok k1 (by omega) (by omega) ?_
      rw [hkn]
      have hT2 := (hT.key (a := a.k) (ck := ck') (ck' := ckK a.k L' ck') k2).ext (Ext.app _ [.cells (keyF a.k)])
      rw [hkn] at hT2
      generalize AST.app (AST.set _ _ _) _ = s3 at hT2 ⊢
      have e8 := cellAt_known hT2.n
      have o8 := hT2.n
      have hfk : L32.many (V ++ [(a.k, a.b)]) = fun c => if c = a.k then L32.many V a.k + 1 else L32.many V c := by
        funext k
        rw [L32.many_snoc, if_neg hnin]
        by_cases e : k = a.k
        · subst e; simp
        · simp [e, Ne.symm e]
      rw [← hfk] at hT2
      by_cases h2 : L32.many V a.k + 1 = 2
      · have he2 : (((L32.many V a.k : Nat) : Int) + 1 == 2) = true := by simp; omega
        have hw : IntKind.i64.wrap ((L32.twos V : Nat) + 1) = ((L32.twos V + 1 : Nat) : Int) := by rw [wrap_i64 (by omega) (by omega)]; simp
        have htw : L32.twos (V ++ [(a.k, a.b)]) = L32.twos V + 1 := by rw [L32.twos_snoc, if_neg hnin, if_pos h2]
        repeat' (first | (simp -dsimp only [↓reduceIte, go_sem, he2, e8, o8, hw]) | (refine arr_intro fun _ => ?_) | (refine later_intro ⟨keeps_nil, ?_⟩) | (refine later_intro ⟨keeps_refl, ?_⟩) | (with_reducible refine keeps_go ?_ ?_; focus (first | (simp [keeps_cons, keeps_none, objs_app, objs_app0]; done) | (simp only [keeps_cons, keeps_none, objs_app0, objs_app, and_true]; first | rfl | exact ⟨rfl, rfl⟩ | exact ⟨rfl, rfl, rfl⟩))) | (with_reducible refine (And.intro (a := keeps _ _ _) ?_ ?_); focus (first | (simp [keeps_cons, keeps_none, objs_app, objs_app0]; done) | (simp only [keeps_cons, keeps_none, objs_app0, objs_app, and_true]; first | rfl | exact ⟨rfl, rfl⟩ | exact ⟨rfl, rfl, rfl⟩))) | (refine both_ways ?_ ?_) | (rw [wrap_i64 (by omega) (by omega)]) | (refine guardV_split (fun h => ?_) (fun h => ?_) <;> (try rw [h]) <;> (try simp at h) <;> (try (exfalso; omega))))
        refine hK _ ?_
        show TS _ _ _ _ _ _ _
        rw [htw]; exact hT2.num _
      · have he2 : (((L32.many V a.k : Nat) : Int) + 1 == 2) = false := by simp; omega
        have htw : L32.twos (V ++ [(a.k, a.b)]) = L32.twos V := by rw [L32.twos_snoc, if_neg hnin, if_neg h2]
        repeat' (first | (simp -dsimp only [↓reduceIte, go_sem, he2, e8, o8]) | (refine arr_intro fun _ => ?_) | (refine later_intro ⟨keeps_nil, ?_⟩) | (refine later_intro ⟨keeps_refl, ?_⟩) | (with_reducible refine keeps_go ?_ ?_; focus (first | (simp [keeps_cons, keeps_none, objs_app, objs_app0]; done) | (simp only [keeps_cons, keeps_none, objs_app0, objs_app, and_true]; first | rfl | exact ⟨rfl, rfl⟩ | exact ⟨rfl, rfl, rfl⟩))) | (with_reducible refine (And.intro (a := keeps _ _ _) ?_ ?_); focus (first | (simp [keeps_cons, keeps_none, objs_app, objs_app0]; done) | (simp only [keeps_cons, keeps_none, objs_app0, objs_app, and_true]; first | rfl | exact ⟨rfl, rfl⟩ | exact ⟨rfl, rfl, rfl⟩))) | (refine both_ways ?_ ?_) | (rw [wrap_i64 (by omega) (by omega)]) | (refine guardV_split (fun h => ?_) (fun h => ?_) <;> (try rw [h]) <;> (try simp at h) <;> (try (exfalso; omega))))
        refine hK _ ?_
        show TS _ _ _ _ _ _ _
        rw [htw]; exact hT2
    · have hin : (a.k, a.b) ∈ V := cntC_pos.1 (by omega)
      have hgt : decide (((cntC V a : Nat) : Int) + 1 > 1) = true := by simp; omega
      repeat' (first | (simp -dsimp only [↓reduceIte, go_sem, hgt]) | (refine arr_intro fun _ => ?_) | (refine later_intro ⟨keeps_nil, ?_⟩) | (refine later_intro ⟨keeps_refl, ?_⟩) | (with_reducible refine keeps_go ?_ ?_; focus (first | (simp [keeps_cons, keeps_none, objs_app, objs_app0]; done) | (simp only [keeps_cons, keeps_none, objs_app0, objs_app, and_true]; first | rfl | exact ⟨rfl, rfl⟩ | exact ⟨rfl, rfl, rfl⟩))) | (with_reducible refine (And.intro (a := keeps _ _ _) ?_ ?_); focus (first | (simp [keeps_cons, keeps_none, objs_app, objs_app0]; done) | (simp only [keeps_cons, keeps_none, objs_app0, objs_app, and_true]; first | rfl | exact ⟨rfl, rfl⟩ | exact ⟨rfl, rfl, rfl⟩))) | (refine both_ways ?_ ?_) | (rw [wrap_i64 (by omega) (by omega)]) | (refine guardV_split (fun h => ?_) (fun h => ?_) <;> (try rw [h]) <;> (try simp at h) <;> (try (exfalso; omega))))
      refine hK _ ?_
      have htw : L32.twos (V ++ [(a.k, a.b)]) = L32.twos V := by rw [L32.twos_snoc, if_pos hin]
      have hfk : L32.many (V ++ [(a.k, a.b)]) = L32.many V := by funext k; rw [L32.many_snoc, if_pos hin]
      show TS _ _ _ _ _ _ _
      rw [htw, hfk]; exact hT
  · have hcont : cont1 p = [] := by unfold cont1; rw [if_neg hc]
    rw [hcont, List.append_nil] at hK
    by_cases he : (getR p.b).2 = 0
    · have hn : (named (getR p.b).1).2 = false := by
        cases hh : (named (getR p.b).1).2 with
        | false => rfl
        | true => exact absurd ⟨he, hh⟩ hc
      refine tcalls_walk Tryz.f39 _ [] Tryz.func39 rfl rfl rfl mixed (Nat.le_of_ble_eq_true rfl) rfl fun hlen => ?_
      repeat' (first | (simp -dsimp only [↓reduceIte, go_sem, he, hn]) | (refine arr_intro fun _ => ?_) | (refine later_intro ⟨keeps_nil, ?_⟩) | (refine later_intro ⟨keeps_refl, ?_⟩) | (with_reducible refine keeps_go ?_ ?_; focus (first | (simp [keeps_cons, keeps_none, objs_app, objs_app0]; done) | (simp only [keeps_cons, keeps_none, objs_app0, objs_app, and_true]; first | rfl | exact ⟨rfl, rfl⟩ | exact ⟨rfl, rfl, rfl⟩))) | (with_reducible refine (And.intro (a := keeps _ _ _) ?_ ?_); focus (first | (simp [keeps_cons, keeps_none, objs_app, objs_app0]; done) | (simp only [keeps_cons, keeps_none, objs_app0, objs_app, and_true]; first | rfl | exact ⟨rfl, rfl⟩ | exact ⟨rfl, rfl, rfl⟩))) | (refine both_ways ?_ ?_) | (rw [wrap_i64 (by omega) (by omega)]) | (refine guardV_split (fun h => ?_) (fun h => ?_) <;> (try rw [h]) <;> (try simp at h) <;> (try (exfalso; omega))) | ((refine named_c ?_)) | (with_reducible refine awp_drawT (id := 2) (.op 0 2 (.op 1 2 (.op 2 2 (.op 3 2 (.op 4 2 (.op 5 2 (.op 6 2 (.op 7 2 (.op 8 2 (.op 9 2 (.op 10 2 (.op 11 2 (.op 12 2 (.op 13 2 (.op 14 2 (.op 15 2 (.op 16 1 (.op 17 2 (.op 18 2 .nil))))))))))))))))))) (by kernel_rfl) ?_))
      exact hK _ (hO _)
    · refine tcalls_walk Tryz.f39 _ [] Tryz.func39 rfl rfl rfl mixed (Nat.le_of_ble_eq_true rfl) rfl fun hlen => ?_
      repeat' (first | (simp -dsimp only [↓reduceIte, go_sem, he]) | (refine arr_intro fun _ => ?_) | (refine later_intro ⟨keeps_nil, ?_⟩) | (refine later_intro ⟨keeps_refl, ?_⟩) | (with_reducible refine keeps_go ?_ ?_; focus (first | (simp [keeps_cons, keeps_none, objs_app, objs_app0]; done) | (simp only [keeps_cons, keeps_none, objs_app0, objs_app, and_true]; first | rfl | exact ⟨rfl, rfl⟩ | exact ⟨rfl, rfl, rfl⟩))) | (with_reducible refine (And.intro (a := keeps _ _ _) ?_ ?_); focus (first | (simp [keeps_cons, keeps_none, objs_app, objs_app0]; done) | (simp only [keeps_cons, keeps_none, objs_app0, objs_app, and_true]; first | rfl | exact ⟨rfl, rfl⟩ | exact ⟨rfl, rfl, rfl⟩))) | (refine both_ways ?_ ?_) | (rw [wrap_i64 (by omega) (by omega)]) | (refine guardV_split (fun h => ?_) (fun h => ?_) <;> (try rw [h]) <;> (try simp at h) <;> (try (exfalso; omega))) | ((refine named_c ?_)) | (with_reducible refine awp_drawT (id := 2) (.op 0 2 (.op 1 2 (.op 2 2 (.op 3 2 (.op 4 2 (.op 5 2 (.op 6 2 (.op 7 2 (.op 8 2 (.op 9 2 (.op 10 2 (.op 11 2 (.op 12 2 (.op 13 2 (.op 14 2 (.op 15 2 (.op 16 1 (.op 17 2 (.op 18 2 .nil))))))))))))))))))) (by kernel_rfl) ?_))
      exact hK _ (hO _)
end Go.Aff.L10

/- Layer 32, walked: twice, Read. -/
-- cuts
namespace Go.Aff.L10
open Go.Proofs Go.Aff Go.Aff.L01 Classical
set_option linter.unusedVariables false
set_option linter.unusedSimpArgs false
set_option maxRecDepth 20000
attribute [local go_sem] push_app app_app length_app cellAt_app cellAt_app0 set_app set_app0 objs_app objs_app0 List.cons_append List.nil_append List.length_cons List.length_nil List.getElem?_cons_zero List.getElem?_cons_succ List.set_cons_zero List.set_cons_succ List.length_map
attribute [-go_sem] cellAt_new
attribute [-simp] List.length_flatMap
attribute [local go_sem] Tryz.underlying3 Tryz.underlying4 Tryz.underlying5 Tryz.underlying9 Tryz.underlying39 Tryz.underlying40 Tryz.underlying43 Tryz.underlying25 Tryz.underlying50 Tryz.underlying76 subPs_0 subAt_0 subSet_0 subPs_1 subAt_1 subSet_1 subPs_2 subAt_2 subSet_2 subPs_3 subAt_3 subSet_3 subPs_4 subAt_4 subSet_4 subPs_5 subAt_5 subSet_5 sizes_sub shapes_sub fits_sub zero_sub zt_sub built_sub Tryz.underlying42 pendPs_0 pendAt_0 pendSet_0 pendPs_1 pendAt_1 pendSet_1 pendPs_2 pendAt_2 pendSet_2 pendPs_3 pendAt_3 pendSet_3 pendPs_4 pendAt_4 pendSet_4 pendPs_5 pendAt_5 pendSet_5 sizes_pend shapes_pend fits_pend zero_pend zt_pend built_pend Tryz.underlying104 repPs_0 repAt_0 repSet_0 repPs_1 repAt_1 repSet_1 repPs_2 repAt_2 repSet_2 repPs_3 repAt_3 repSet_3 repPs_4 repAt_4 repSet_4 repPs_5 repAt_5 repSet_5 repPs_6 repAt_6 repSet_6 repPs_7 repAt_7 repSet_7 repPs_8 repAt_8 repSet_8 repPs_9 repAt_9 repSet_9 sizes_rep shapes_rep fits_rep zero_rep zt_rep built_rep Tryz.underlying45 blobPs_0 blobAt_0 blobSet_0 blobPs_1 blobAt_1 blobSet_1 blobPs_2 blobAt_2 blobSet_2 blobPs_3 blobAt_3 blobSet_3 sizes_blob shapes_blob fits_blob zero_blob zt_blob built_blob Tryz.underlying47 msgPs_0 msgAt_0 msgSet_0 msgPs_1 msgAt_1 msgSet_1 msgPs_2 msgAt_2 msgSet_2 msgPs_3 msgAt_3 msgSet_3 msgPs_4 msgAt_4 msgSet_4 msgPs_5 msgAt_5 msgSet_5 msgPs_6 msgAt_6 msgSet_6 msgPs_7 msgAt_7 msgSet_7 msgPs_8 msgAt_8 msgSet_8 msgPs_9 msgAt_9 msgSet_9 sizes_msg shapes_msg fits_msg zero_msg zt_msg built_msg Tryz.underlying49 at_Ps_0 at_Set_0 at_Ps_1 at_Set_1 sizes_at_ shapes_at_
attribute [local go_sem] fits3 fits4 fits5 fits9 fits23 fits26 fits31 fits34 fits52 zt3 zero3 zt34 zero34 zt23 zero23 bin_sub_eql bin_pend_eql bin_pend_neq bin_blob_eql bin_dig23_eql bin_dig23_neq slice23
attribute [local go_sem ↓] blockQ_exit2
attribute [local simp] dig_ext
attribute [local go_sem] postPs_0 postAt_0 postSet_0 postPs_1 postAt_1 postSet_1 postPs_2 postAt_2 postSet_2 sizes_post shapes_post fits_post zero_post zt_post built_post Tryz.underlying38 keyPs_0 keyAt_0 keySet_0 keyPs_1 keyAt_1 keySet_1 keyPs_2 keyAt_2 keySet_2 sizes_key shapes_key fits_key zero_key zt_key built_key Tryz.underlying87 conPs_0 conAt_0 conSet_0 conPs_1 conAt_1 conSet_1 sizes_con shapes_con fits_con zero_con zt_con built_con Tryz.underlying89 Tryz.underlying22 Tryz.underlying28 Tryz.underlying29 Tryz.underlying31 Tryz.underlying24 Tryz.underlying25 Tryz.underlying125 Tryz.underlying127 Tryz.underlying128 Tryz.underlying130
attribute [local go_sem] fits79 fits71 fits77 fits22 fits30' fits51' rptPs_0 rptAt_0 rptSet_0 rptPs_1 rptAt_1 rptSet_1 rptPs_2 rptAt_2 rptSet_2 rptPs_3 rptAt_3 rptSet_3 rptPs_4 rptAt_4 rptSet_4 sizes_rpt shapes_rpt fits_rpt zero_rpt zt_rpt built_rpt fits24 fits25 sizes_arrI shapes_arrI arrI_len
theorem zt71 : ZeroOf Tryz.prog 84 (.ptr none) = True := eq_true ⟨_, _, rfl, rfl, rfl, rfl, rfl⟩
theorem zt77 : ZeroOf Tryz.prog 90 (.ptr none) = True := eq_true ⟨_, _, rfl, rfl, rfl, rfl, rfl⟩
theorem zt79 : ZeroOf Tryz.prog 92 .nilFn = True := eq_true ⟨_, _, rfl, rfl, rfl, rfl, rfl⟩
theorem za71 : zeroA Tryz.prog 12 84 = .ptr none := by kernel_rfl
theorem za77 : zeroA Tryz.prog 12 90 = .ptr none := by kernel_rfl
theorem za79 : zeroA Tryz.prog 12 92 = .nilFn := by kernel_rfl
theorem shape_nilFn : AV.nilFn.shape = .leaf := by simp [AV.shape]
attribute [local go_sem] zt71 zt77 zt79 za71 za77 za79 shape_nilFn
theorem conts_next {l : List Post} {i : Nat} {p : Post} (h : l[i]? = some p) : conts (l.take (i + 1)) = conts (l.take i) ++ cont1 p := by
  rw [List.take_add_one, h]; exact conts_snoc
theorem twice_c {ps : List Post} {ta : Tk} {σ : AST} {K : AV → AST → Prop} (hl : ps.length ≤ 1000) (hK : K (.int .i64 (twiceN ps : Nat)) σ) : TCalls Tryz.prog 16 [.slice ta (ps.map postV)] σ K := by
  refine TCalls.drop ?_
  have hV0 : TV σ (σ.app [.cells (.slice ta (ps.map postV)), .map [] 0, .cells (.agg [.mp (some (σ.objs.length + 1))]), .map [] 0, .cells (.agg [.mp (some (σ.objs.length + 3))]), .cells (.ptr (some (σ.objs.length + 2, []))), .cells (.ptr (some (σ.objs.length + 4, []))), .cells (.fn (.func 38) [] []), .cells (.int .i64 0)]) ps ta (conts (ps.take 0)) := by
    have e0 : conts (ps.take 0) = [] := by simp [conts]
    rw [e0]
    refine ⟨Ext.app _ _, ?_, ?_, ?_, ?_, ?_, ?_, ?_, ⟨[], 0, ?_, fun c => by simp [cntK, fnd, cntC]⟩, [], 0, ?_, fun c => by simp [cntK, fnd, L32.many_nil]⟩
    · rw [objs_app0]; rfl
    all_goals (rw [objs_app]; rfl)
  have n1 : σ.objs.length + 1 + 1 = σ.objs.length + 2 := rfl
  have n3 : σ.objs.length + 3 + 1 = σ.objs.length + 4 := rfl
  refine tcalls_walk Tryz.f16 _ [.tmp 2] Tryz.func16 rfl rfl rfl mixed (Nat.le_of_ble_eq_true rfl) rfl fun hlen => ?_
  repeat' (first | (simp -dsimp only [↓reduceIte, go_sem, n1, n3]) | (refine arr_intro fun _ => ?_) | (rw [wrap_i64 (by omega) (by omega)]) | (refine guardV_split (fun h => ?_) (fun h => ?_) <;> (try rw [h]) <;> (try simp at h) <;> (try (exfalso; omega))) | ((refine newCon_c ?_)) | ((refine newKey_c ?_)))
  refine ⟨by intro x hx; simp only [List.mem_cons, List.not_mem_nil, or_false] at hx; rcases hx with rfl | rfl | rfl | rfl | rfl <;> simp only [go_sem], later_intro ?_⟩
  repeat' (first | (simp -dsimp only [↓reduceIte, go_sem, n1, n3]) | (refine arr_intro fun _ => ?_) | (rw [wrap_i64 (by omega) (by omega)]) | (refine guardV_split (fun h => ?_) (fun h => ?_) <;> (try rw [h]) <;> (try simp at h) <;> (try (exfalso; omega))))
  refine each_c (fun i s => TV σ s ps ta (conts (ps.take i))) hV0 (fun i s s' h e => TS.ext h e) (fun i p s t u K' hp hJ hK' => ?_) (fun s hJ => ?_)
  · have hi := (List.getElem?_eq_some_iff.1 hp).1
    have := conts_len (l := ps.take i)
    rw [List.length_take] at this
    exact twice1_c hJ hp (by omega) fun s' h' => hK' s' (by rw [conts_next hp]; exact h')
  · rw [List.take_length] at hJ
    have q5 := cellAt_known hJ.vc
    obtain ⟨L, ck, k1, _⟩ := hJ.pc
    have q8 : ∀ o p, cellAt (s.set (σ.objs.length + 1) o) (σ.objs.length + 8) p = (AV.int .i64 (L32.twos (conts ps))).at p := fun o => cellAt_known (by rw [objs_setN' (by omega)]; exact hJ.n)
    repeat' (first | (simp -dsimp only [↓reduceIte, go_sem, q5, q8]) | (refine arr_intro fun _ => ?_) | (rw [wrap_i64 (by omega) (by omega)]) | (refine guardV_split (fun h => ?_) (fun h => ?_) <;> (try rw [h]) <;> (try simp at h) <;> (try (exfalso; omega))) | ((refine forget_c hJ.oc k1 ?_)))
    exact ⟨hJ.x.set (by omega), rfl, by simpa [AV.strip, twiceN] using hK⟩
/-- What a report is of some posts. -/
noncomputable def rptOf (ps : List Post) (F T : Int) : Rpt := ⟨kindsN ps, F, T, (twiceN ps : Nat), lastN ps⟩
theorem kinds_b {ps : List Post} {q : Nat} : 0 ≤ kindsN ps q ∧ kindsN ps q ≤ ps.length := by
  unfold kindsN
  have := List.countP_le_length (p := fun p => decide (kd p = q)) (l := ps)
  omega
theorem rpt_step {ps : List Post} {i : Nat} {p : Post} {tw : Int} (h : ps[i]? = some p) : rptStep ⟨kindsN (ps.take i), -1, -1, tw, lastN (ps.take i)⟩ p = ⟨kindsN (ps.take (i + 1)), -1, -1, tw, lastN (ps.take (i + 1))⟩ := by
  have e : ps.take (i + 1) = ps.take i ++ [p] := by rw [List.take_add_one, h]; rfl
  rw [e]
  unfold rptStep
  congr 1
  · funext q
    rw [kindsN_snoc]
    by_cases hq : q = kd p
    · subst hq; simp
    · rw [if_neg hq, if_neg (Ne.symm hq)]
  · funext c
    rw [lastN_snoc]
theorem read_c {ps : List Post} {ta : Tk} {σ : AST} {K : AV → AST → Prop} (hl : ps.length ≤ 1000) (hK : ∀ F T, RepP ps F T → K (rptV (rptOf ps F T)) σ) : TCalls Tryz.prog 8 [.slice ta (ps.map postV)] σ K := by
  refine TCalls.drop ?_
  have z1 : rpt0.kinds = kindsN (ps.take 0) := rfl
  have z2 : rpt0.last = lastN (ps.take 0) := rfl
  refine tcalls_walk Tryz.f8 _ [.cell 2 31] Tryz.func8 rfl rfl rfl mixed (Nat.le_of_ble_eq_true rfl) rfl fun hlen => ?_
  repeat' (first | (simp -dsimp only [↓reduceIte, go_sem, z1, z2]) | (refine arr_intro fun _ => ?_) | (refine later_intro ⟨keeps_nil, ?_⟩) | (refine later_intro ⟨keeps_refl, ?_⟩) | (with_reducible refine keeps_go ?_ ?_; focus (first | (simp [keeps_cons, keeps_none, objs_app, objs_app0]; done) | (simp only [keeps_cons, keeps_none, objs_app0, objs_app, and_true]; first | rfl | exact ⟨rfl, rfl⟩ | exact ⟨rfl, rfl, rfl⟩))) | (with_reducible refine (And.intro (a := keeps _ _ _) ?_ ?_); focus (first | (simp [keeps_cons, keeps_none, objs_app, objs_app0]; done) | (simp only [keeps_cons, keeps_none, objs_app0, objs_app, and_true]; first | rfl | exact ⟨rfl, rfl⟩ | exact ⟨rfl, rfl, rfl⟩))) | (refine both_ways ?_ ?_) | (rw [wrap_i64 (by omega) (by omega)]) | (refine guardV_split (fun h => ?_) (fun h => ?_) <;> (try rw [h]) <;> (try simp at h) <;> (try (exfalso; omega))) | ((refine twice_c hl ?_)))
  refine ⟨by intro x hx; simp only [List.mem_cons, List.not_mem_nil, or_false] at hx; rcases hx with rfl; simp only [go_sem], later_intro ?_⟩
  repeat' (first | (simp -dsimp only [↓reduceIte, go_sem, z1, z2]) | (refine arr_intro fun _ => ?_) | (refine later_intro ⟨keeps_nil, ?_⟩) | (refine later_intro ⟨keeps_refl, ?_⟩) | (with_reducible refine keeps_go ?_ ?_; focus (first | (simp [keeps_cons, keeps_none, objs_app, objs_app0]; done) | (simp only [keeps_cons, keeps_none, objs_app0, objs_app, and_true]; first | rfl | exact ⟨rfl, rfl⟩ | exact ⟨rfl, rfl, rfl⟩))) | (with_reducible refine (And.intro (a := keeps _ _ _) ?_ ?_); focus (first | (simp [keeps_cons, keeps_none, objs_app, objs_app0]; done) | (simp only [keeps_cons, keeps_none, objs_app0, objs_app, and_true]; first | rfl | exact ⟨rfl, rfl⟩ | exact ⟨rfl, rfl, rfl⟩))) | (refine both_ways ?_ ?_) | (rw [wrap_i64 (by omega) (by omega)]) | (refine guardV_split (fun h => ?_) (fun h => ?_) <;> (try rw [h]) <;> (try simp at h) <;> (try (exfalso; omega))))
  have h0 : (Ext σ (σ.app [.cells (rptV rpt0), .cells (rptV ⟨kindsN (ps.take 0), -1, -1, (twiceN ps : Nat), lastN (ps.take 0)⟩)])) ∧ (σ.app [.cells (rptV rpt0), .cells (rptV ⟨kindsN (ps.take 0), -1, -1, (twiceN ps : Nat), lastN (ps.take 0)⟩)]).objs[σ.objs.length]? = some (.cells (rptV rpt0)) ∧ (σ.app [.cells (rptV rpt0), .cells (rptV ⟨kindsN (ps.take 0), -1, -1, (twiceN ps : Nat), lastN (ps.take 0)⟩)]).objs[σ.objs.length + 1]? = some (.cells (rptV ⟨kindsN (ps.take 0), -1, -1, (twiceN ps : Nat), lastN (ps.take 0)⟩)) :=
    ⟨Ext.app _ _, by rw [objs_app0]; rfl, by rw [objs_app]; rfl⟩
  refine each_c (fun i s => Ext σ s ∧ s.objs[σ.objs.length]? = some (.cells (rptV rpt0)) ∧ s.objs[σ.objs.length + 1]? = some (.cells (rptV ⟨kindsN (ps.take i), -1, -1, (twiceN ps : Nat), lastN (ps.take i)⟩))) h0 (fun i s s' h e => ⟨h.1.trans e, ext_known e h.2.1, ext_known e h.2.2⟩) (fun i p s t u K' hp hJ hK' => ?_) (fun s hJ => ?_)
  · have hi := (List.getElem?_eq_some_iff.1 hp).1
    have hs : σ.objs.length < s.objs.length := cell_len hJ.2.1
    have hx1 : Ext (σ.app [.cells (rptV rpt0)]) s := by
      obtain ⟨O, T, rfl⟩ := hJ.1
      cases O with
      | nil => simp at hs
      | cons o O =>
        have := hJ.2.1
        simp at this; subst this
        exact ⟨O, T, by simp [AST.app]⟩
    refine read1_c hx1 (by simp [length_app]) hJ.2.2 (fun q => ?_) fun s' hx' ho' => hK' s' ⟨(Ext.app _ _).trans hx', ?_, ?_⟩
    · have := kinds_b (ps := ps.take i) (q := q)
      rw [List.length_take] at this
      dsimp only; omega
    · exact ext_known hx' (by rw [objs_app0]; rfl)
    · rw [rpt_step hp] at ho'; exact ho'
  · rw [List.take_length] at hJ
    obtain ⟨hx, ho, hr⟩ := hJ
    repeat' (first | (simp -dsimp only [↓reduceIte, go_sem]) | (refine arr_intro fun _ => ?_) | (refine later_intro ⟨keeps_nil, ?_⟩) | (refine later_intro ⟨keeps_refl, ?_⟩) | (with_reducible refine keeps_go ?_ ?_; focus (first | (simp [keeps_cons, keeps_none, objs_app, objs_app0]; done) | (simp only [keeps_cons, keeps_none, objs_app0, objs_app, and_true]; first | rfl | exact ⟨rfl, rfl⟩ | exact ⟨rfl, rfl, rfl⟩))) | (with_reducible refine (And.intro (a := keeps _ _ _) ?_ ?_); focus (first | (simp [keeps_cons, keeps_none, objs_app, objs_app0]; done) | (simp only [keeps_cons, keeps_none, objs_app0, objs_app, and_true]; first | rfl | exact ⟨rfl, rfl⟩ | exact ⟨rfl, rfl, rfl⟩))) | (refine both_ways ?_ ?_) | (rw [wrap_i64 (by omega) (by omega)]) | (refine guardV_split (fun h => ?_) (fun h => ?_) <;> (try rw [h]) <;> (try simp at h) <;> (try (exfalso; omega))))
    refine views_c hl fun s' tv tw hx' => ?_
    have e : ((vws ps ps.length).map fun x => AV.str x.1) = (vwsV ps).map AV.str := by rw [← vws_views, List.map_map]; rfl
    have e2 : ((vws ps ps.length).map fun x => AV.int .i64 x.2) = ((vws ps ps.length).map (·.2)).map (AV.int .i64) := by rw [List.map_map]; rfl
    rw [e, e2]
    generalize hP : (vws ps ps.length).map (·.2) = at_
    have ho2 := ext_known hx' ho
    have hr2 := ext_known hx' hr
    have co := cellAt_known ho2
    have cr := cellAt_known hr2
    have l0 := cell_len ho2
    have l1 := cell_len hr2
    have hx2 := hx.trans hx'
    have oA : ∀ o, (s'.set σ.objs.length o).objs[σ.objs.length]? = some o := fun o => objs_setS' l0
    have oB : ∀ o, (s'.set (σ.objs.length + 1) o).objs[σ.objs.length + 1]? = some o := fun o => objs_setS' l1
    have oC : ∀ o, (s'.set (σ.objs.length + 1) o).objs[σ.objs.length]? = some (.cells (rptV rpt0)) := fun o => by rw [objs_setN' (by omega)]; exact ho2
    have oD : ∀ o o', ((s'.set (σ.objs.length + 1) o).set σ.objs.length o').objs[σ.objs.length]? = some o' := fun o o' => objs_setS' (by rw [length_set]; exact l0)
    have cA := fun v => cellAt_known (oA (.cells v))
    have cB := fun v => cellAt_known (oB (.cells v))
    have cC := fun o => cellAt_known (oC o)
    have cD := fun o v => cellAt_known (oD o (.cells v))
    have sB : ∀ o o', (s'.set (σ.objs.length + 1) o).set (σ.objs.length + 1) o' = s'.set (σ.objs.length + 1) o' := fun o o' => set_set'
    have fin : ∀ s2 F T, Ext σ s2 → RepP ps F T → Ext σ s2 ∧ (rptV (rptOf ps F T)).noRef = true ∧ K (rptV (rptOf ps F T)).strip σ := fun s2 F T e1 e2 => by
      refine ⟨e1, by simp only [AV.noRef]; exact noRef_rpt, ?_⟩
      simp only [AV.strip, strip_rpt]
      exact hK F T e2
    repeat' (first | (simp -dsimp only [↓reduceIte, go_sem]) | (refine arr_intro fun _ => ?_) | (refine later_intro ⟨keeps_nil, ?_⟩) | (refine later_intro ⟨keeps_refl, ?_⟩) | (with_reducible refine keeps_go ?_ ?_; focus (first | (simp [keeps_cons, keeps_none, objs_app, objs_app0]; done) | (simp only [keeps_cons, keeps_none, objs_app0, objs_app, and_true]; first | rfl | exact ⟨rfl, rfl⟩ | exact ⟨rfl, rfl, rfl⟩))) | (with_reducible refine (And.intro (a := keeps _ _ _) ?_ ?_); focus (first | (simp [keeps_cons, keeps_none, objs_app, objs_app0]; done) | (simp only [keeps_cons, keeps_none, objs_app0, objs_app, and_true]; first | rfl | exact ⟨rfl, rfl⟩ | exact ⟨rfl, rfl, rfl⟩))) | (refine both_ways ?_ ?_) | (rw [wrap_i64 (by omega) (by omega)]) | (refine guardV_split (fun h => ?_) (fun h => ?_) <;> (try rw [h]) <;> (try simp at h) <;> (try (exfalso; omega))))
    refine Go.Aff.L09.fork_c fun a b hF => ?_
    by_cases hn : a < 0
    · have hge : decide (a ≥ 0) = false := by simp; omega
      repeat' (first | (simp -dsimp only [↓reduceIte, go_sem, hge, co, cr, ho2, hr2, oA, cA]) | (refine arr_intro fun _ => ?_) | (refine later_intro ⟨keeps_nil, ?_⟩) | (refine later_intro ⟨keeps_refl, ?_⟩) | (with_reducible refine keeps_go ?_ ?_; focus (first | (simp [keeps_cons, keeps_none, objs_app, objs_app0]; done) | (simp only [keeps_cons, keeps_none, objs_app0, objs_app, and_true]; first | rfl | exact ⟨rfl, rfl⟩ | exact ⟨rfl, rfl, rfl⟩))) | (with_reducible refine (And.intro (a := keeps _ _ _) ?_ ?_); focus (first | (simp [keeps_cons, keeps_none, objs_app, objs_app0]; done) | (simp only [keeps_cons, keeps_none, objs_app0, objs_app, and_true]; first | rfl | exact ⟨rfl, rfl⟩ | exact ⟨rfl, rfl, rfl⟩))) | (refine both_ways ?_ ?_) | (rw [wrap_i64 (by omega) (by omega)]) | (refine guardV_split (fun h => ?_) (fun h => ?_) <;> (try rw [h]) <;> (try simp at h) <;> (try (exfalso; omega))))
      exact fin _ _ _ (hx2.set (by omega)) ⟨a, b, hF, .inl ⟨hn, rfl, rfl⟩⟩
    · have hge : decide (a ≥ 0) = true := by simp; omega
      obtain ⟨i, k, x, y, hik, hgx, hgy, hf, hb, rfl, rfl⟩ : ∃ (i k : Nat) (x y : List UInt8), i < k ∧ (vwsV ps)[i]? = some x ∧ (vwsV ps)[k]? = some y ∧ L09.fit x y = false ∧ L09.allBefore (vwsV ps) k i ∧ a = i ∧ b = k := by
        rcases hF with h | ⟨_, h, _⟩
        · exact h
        · omega
      have hlen : at_.length = (vwsV ps).length := by rw [← hP, ← vws_views]; simp
      have hi := (List.getElem?_eq_some_iff.1 hgx).1
      have hk := (List.getElem?_eq_some_iff.1 hgy).1
      have gi : at_[i]? = some at_[i] := List.getElem?_eq_getElem (by omega)
      have gk : at_[k]? = some at_[k] := List.getElem?_eq_getElem (by omega)
      repeat' (first | (simp -dsimp only [↓reduceIte, go_sem, hge, co, cr, ho2, hr2, oB, oC, oD, cB, cC, cD, sB]) | (refine arr_intro fun _ => ?_) | (refine later_intro ⟨keeps_nil, ?_⟩) | (refine later_intro ⟨keeps_refl, ?_⟩) | (with_reducible refine keeps_go ?_ ?_; focus (first | (simp [keeps_cons, keeps_none, objs_app, objs_app0]; done) | (simp only [keeps_cons, keeps_none, objs_app0, objs_app, and_true]; first | rfl | exact ⟨rfl, rfl⟩ | exact ⟨rfl, rfl, rfl⟩))) | (with_reducible refine (And.intro (a := keeps _ _ _) ?_ ?_); focus (first | (simp [keeps_cons, keeps_none, objs_app, objs_app0]; done) | (simp only [keeps_cons, keeps_none, objs_app0, objs_app, and_true]; first | rfl | exact ⟨rfl, rfl⟩ | exact ⟨rfl, rfl, rfl⟩))) | (refine both_ways ?_ ?_) | (rw [wrap_i64 (by omega) (by omega)]) | (refine guardV_split (fun h => ?_) (fun h => ?_) <;> (try rw [h]) <;> (try simp at h) <;> (try (exfalso; omega))) | (with_reducible refine awp_drawU (id := 6) (.op 0 2 (.op 1 2 (.op 2 2 (.op 3 2 (.op 4 0 (.op 5 0 (.op 6 0 (.op 7 0 (.op 8 2 (.op 9 1 (.cut (.op 10 2 (.op 11 1 .nil))))))))))))) (by kernel_rfl) ?_) | (refine nth_get gi ?_) | (refine nth_get gk ?_))
      refine fin _ _ _ ((hx2.set (by omega)).set (by omega)) ⟨i, k, hF, .inr ⟨by omega, by omega, ?_, ?_⟩⟩
      · rw [hP, Int.toNat_natCast]; exact gi
      · rw [hP, Int.toNat_natCast]; exact gk
end Go.Aff.L10

/- Layer 10: what was laid is read back. -/
namespace Go.Aff.L10
open Go.Proofs Go.Aff Go.Aff.L01 Classical
set_option linter.unusedVariables false
set_option linter.unusedSimpArgs false
set_option maxRecDepth 20000

def rdAt (x y : List UInt8) : Rdr := ⟨x ++ y, x.length, 0⟩
theorem int_back {x y : List UInt8} {n : Int} (h0 : -9223372036854775808 ≤ n) (h1 : n ≤ 9223372036854775807) : (rdAt x (numS n ++ y)).int = (n, rdAt (x ++ numS n) y) := by
  have h := num_back (x := x) (y := y) h0 h1
  have h2 : numR (x ++ (numS n ++ y)) (x.length : Int) = (n, ((x.length + (numS n).length : Nat) : Int), 0) := by
    rw [numR_nat (by simp)]; exact h
  simp only [rdAt, Rdr.int, h2]
  simp [List.append_assoc]
theorem rtext_back {x y t : List UInt8} (ht : t.length ≤ 16384) : (rdAt x (textS t ++ y)).text = (t, rdAt (x ++ textS t) y) := by
  have h := text_back (x := x) (y := y) (t := t) (by omega)
  have h2 : textR (x ++ (textS t ++ y)) (x.length : Int) = (t, ((x.length + (textS t).length : Nat) : Int), 0) := by
    rw [textR_nat (by simp)]; exact h
  simp only [rdAt, Rdr.text, h2]
  simp [List.append_assoc]
theorem digOf_l (d : Dig) : digOf d.l = (d, 0) := by unfold digOf; rw [dif_pos d.h]
theorem rdig_back {x y : List UInt8} {d : Dig} : (rdAt x (digS d ++ y)).dig = (d, rdAt (x ++ digS d) y) := by
  have h := rtext_back (x := x) (y := y) (t := d.l) (by rw [d.h]; omega)
  simp only [Rdr.dig, digS, h, digOf_l]
  simp
theorem rints_back {x y : List UInt8} {l : List Int} (h : InI l) (hl : ¬ 512 < l.length) : (rdAt x (laidAll numS l ++ y)).ints = (l, rdAt (x ++ laidAll numS l) y) := by
  have h2 := ints_back (x := x) (y := y) h hl
  simp only [rdAt, Rdr.ints, intsR, h2]
  simp [List.append_assoc]
def Rng (n : Int) : Prop := -9223372036854775808 ≤ n ∧ n ≤ 9223372036854775807
theorem int_back' {x y : List UInt8} {n : Int} (h : Rng n) : (rdAt x (numS n ++ y)).int = (n, rdAt (x ++ numS n) y) := int_back h.1 h.2
theorem pend_back {x y : List UInt8} {p : Pend} (hp : p.Ok) : (rdAt x (pendB p ++ y)).pend = (p, rdAt (x ++ pendB p) y) := by
  obtain ⟨h1, h2, h3, h4⟩ := hp
  simp only [In] at h1 h2 h3 h4
  have a1 : Rng p.client := ⟨by omega, by omega⟩
  have a2 : Rng p.num := ⟨by omega, by omega⟩
  have a3 : Rng p.kind := ⟨by omega, by omega⟩
  have a4 : Rng p.target := ⟨by omega, by omega⟩
  have e : pendB p ++ y = numS p.client ++ (numS p.num ++ (numS p.kind ++ (numS p.target ++ (digS p.asked ++ (digS p.proof ++ y))))) := by simp [pendB]
  rw [e]
  simp only [Rdr.pend, int_back' a1, int_back' a2, int_back' a3, int_back' a4, rdig_back]
  simp [pendB, List.append_assoc]
theorem pends_back : ∀ {l : List Pend} {x y : List UInt8}, (∀ p ∈ l, p.Ok) → Rdr.pends l.length (rdAt x (l.flatMap pendB ++ y)) = (l, rdAt (x ++ l.flatMap pendB) y)
  | [], x, y, _ => by simp [Rdr.pends]
  | p :: l, x, y, h => by
    have h1 := pend_back (x := x) (y := l.flatMap pendB ++ y) (h p (List.mem_cons_self ..))
    have h2 := pends_back (l := l) (x := x ++ pendB p) (y := y) (fun q hq => h q (List.mem_cons_of_mem _ hq))
    have e0 : (rdAt x ((p :: l).flatMap pendB ++ y)).e = 0 := rfl
    rw [List.length_cons, Rdr.pends, if_neg (by rw [e0]; decide)]
    rw [List.flatMap_cons, List.append_assoc, h1]
    simp only [h2]
    simp [List.append_assoc]
theorem rep_back {x y : List UInt8} {a : Rep} (hok : a.Ok) : (rdAt x (ansB a ++ y)).rep = (a, rdAt (x ++ ansB a) y) := by
  obtain ⟨hp, h1, h2, h3, h4, h5, h6, h7, h8⟩ := hok
  simp only [In, ViewOk] at h1 h2 h5 h6 h7
  have a1 : Rng a.num := ⟨by omega, by omega⟩
  have a2 : Rng a.last := ⟨by omega, by omega⟩
  have a3 : Rng (a.pending.length : Int) := ⟨by omega, by omega⟩
  have a4 : Rng a.vnum := ⟨by omega, by omega⟩
  have t1 : a.view.length ≤ 16384 := by omega
  have t2 : a.value.length ≤ 16384 := by omega
  have t3 : a.seen.length ≤ 16384 := by omega
  have hin : In 0 8 (a.pending.length : Int) := ⟨by omega, by omega⟩
  have e : ansB a ++ y = numS a.num ++ (numS a.last ++ (textS a.view ++ (digS a.commit ++ (numS (a.pending.length : Int) ++ (a.pending.flatMap pendB ++ (numS a.vnum ++ (textS a.value ++ (digS a.data ++ (textS a.seen ++ (digS a.seenTag ++ y)))))))))) := by simp [ansB]
  rw [e]
  have e0 : ∀ x y, (rdAt x y).e = 0 := fun _ _ => rfl
  simp only [Rdr.rep, Rdr.rep1, Rdr.rep2, int_back' a1, int_back' a2, int_back' a3, rtext_back t1, rdig_back, hin, not_true_eq_false, and_false, if_false, Int.toNat_natCast, pends_back hp, int_back' a4, rtext_back t2, rtext_back t3]
  simp [ansB, List.append_assoc, rep0]
theorem fields_back {m : Msg} (hok : m.Ok) {x y : List UInt8} : (rdAt x (m.rest ++ y)).fields (getM m.kind m.client) = (m, rdAt (x ++ m.rest) y) := by
  have hk := hok.kinds
  have ho := hok.2.2
  have hm : m = ⟨m.kind, m.client, m.sub, m.rep, m.view, m.by_, m.tag, m.own, m.blob, m.nums⟩ := rfl
  rcases hk with ⟨hq, hs⟩ | ⟨hq, hs⟩ | ⟨hq, hs⟩ | ⟨hq, hs⟩ | ⟨hq, hs⟩ | ⟨hq, hs⟩ | ⟨hq, hs⟩ | ⟨hq, hs⟩ | hq | ⟨hq, hs⟩ | hq
  all_goals
    simp only [Msg.own_, hq] at ho
    simp only [Msg.iff] at ho
    simp [msg0] at ho
    obtain ⟨_, ho⟩ := ho
  · obtain ⟨o1, o2, o3, o4⟩ := hs
    simp only [In] at o1 o2 o3
    have a1 : Rng m.sub.num := ⟨by omega, by omega⟩
    have a2 : Rng m.sub.kind := ⟨by omega, by omega⟩
    have a3 : Rng m.sub.target := ⟨by omega, by omega⟩
    have t1 : m.sub.value.length ≤ 16384 := by omega
    have e : m.rest ++ y = numS m.sub.num ++ (numS m.sub.kind ++ (numS m.sub.target ++ (textS m.sub.value ++ (digS m.sub.asked ++ (digS m.sub.data ++ (y)))))) := by simp [Msg.rest, hq, subB, blobB]
    rw [e]
    simp only [Rdr.fields, getM, hq, Int.reduceEq, if_true, if_false, or_self, or_true, true_or, false_or, or_false, int_back' a1, int_back' a2, int_back' a3, rtext_back t1, rdig_back]
    refine Prod.ext ?_ ?_
    · simp [Msg.iff, hq]; grind
    · simp [Msg.rest, hq, subB, blobB, List.append_assoc]
  · have h0 := hs
    have e : m.rest ++ y = ansB m.rep ++ (y) := by simp [Msg.rest, hq, subB, blobB]
    rw [e]
    simp only [Rdr.fields, getM, hq, Int.reduceEq, if_true, if_false, or_self, or_true, true_or, false_or, or_false, rep_back hs]
    refine Prod.ext ?_ ?_
    · simp [Msg.iff, hq]; grind
    · simp [Msg.rest, hq, subB, blobB, List.append_assoc]
  · obtain ⟨_, _, v1, _⟩ := hs
    have t1 : m.view.length ≤ 16384 := by omega
    have e : m.rest ++ y = textS m.view ++ (digS m.tag ++ (y)) := by simp [Msg.rest, hq, subB, blobB]
    rw [e]
    simp only [Rdr.fields, getM, hq, Int.reduceEq, if_true, if_false, or_self, or_true, true_or, false_or, or_false, rtext_back t1, rdig_back]
    refine Prod.ext ?_ ?_
    · simp [Msg.iff, hq]; grind
    · simp [Msg.rest, hq, subB, blobB, List.append_assoc]
  · obtain ⟨o1, o2, o3⟩ := hs
    simp only [In] at o1 o2
    have a1 : Rng m.blob.owner := ⟨by omega, by omega⟩
    have a2 : Rng m.blob.num := ⟨by omega, by omega⟩
    have t1 : m.blob.cipher.length ≤ 16384 := by omega
    have e : m.rest ++ y = numS m.blob.owner ++ (numS m.blob.num ++ (textS m.blob.cipher ++ (digS m.blob.tag ++ (y)))) := by simp [Msg.rest, hq, subB, blobB]
    rw [e]
    simp only [Rdr.fields, getM, hq, Int.reduceEq, if_true, if_false, or_self, or_true, true_or, false_or, or_false, int_back' a1, int_back' a2, rtext_back t1, rdig_back]
    refine Prod.ext ?_ ?_
    · simp [Msg.iff, hq]; grind
    · simp [Msg.rest, hq, subB, blobB, List.append_assoc]
  · have i1 := hs.in_
    have i2 : ¬ 512 < m.nums.length := by have := hs.2; simp only [In] at this; omega
    have e : m.rest ++ y = laidAll numS m.nums ++ (y) := by simp [Msg.rest, hq, subB, blobB]
    rw [e]
    simp only [Rdr.fields, getM, hq, Int.reduceEq, if_true, if_false, or_self, or_true, true_or, false_or, or_false, rints_back i1 i2]
    refine Prod.ext ?_ ?_
    · simp [Msg.iff, hq]; grind
    · simp [Msg.rest, hq, subB, blobB, List.append_assoc]
  · obtain ⟨o1, o2, o3⟩ := hs
    simp only [In] at o1 o2
    have a1 : Rng m.blob.owner := ⟨by omega, by omega⟩
    have a2 : Rng m.blob.num := ⟨by omega, by omega⟩
    have t1 : m.blob.cipher.length ≤ 16384 := by omega
    have e : m.rest ++ y = numS m.blob.owner ++ (numS m.blob.num ++ (textS m.blob.cipher ++ (digS m.blob.tag ++ (y)))) := by simp [Msg.rest, hq, subB, blobB]
    rw [e]
    simp only [Rdr.fields, getM, hq, Int.reduceEq, if_true, if_false, or_self, or_true, true_or, false_or, or_false, int_back' a1, int_back' a2, rtext_back t1, rdig_back]
    refine Prod.ext ?_ ?_
    · simp [Msg.iff, hq]; grind
    · simp [Msg.rest, hq, subB, blobB, List.append_assoc]
  · have i1 := hs.in_
    have i2 : ¬ 512 < m.nums.length := by have := hs.2; simp only [In] at this; omega
    have e : m.rest ++ y = laidAll numS m.nums ++ (y) := by simp [Msg.rest, hq, subB, blobB]
    rw [e]
    simp only [Rdr.fields, getM, hq, Int.reduceEq, if_true, if_false, or_self, or_true, true_or, false_or, or_false, rints_back i1 i2]
    refine Prod.ext ?_ ?_
    · simp [Msg.iff, hq]; grind
    · simp [Msg.rest, hq, subB, blobB, List.append_assoc]
  · have i1 := hs.in_
    have i2 : ¬ 512 < m.nums.length := by have := hs.2; simp only [In] at this; omega
    have e : m.rest ++ y = laidAll numS m.nums ++ (y) := by simp [Msg.rest, hq, subB, blobB]
    rw [e]
    simp only [Rdr.fields, getM, hq, Int.reduceEq, if_true, if_false, or_self, or_true, true_or, false_or, or_false, rints_back i1 i2]
    refine Prod.ext ?_ ?_
    · simp [Msg.iff, hq]; grind
    · simp [Msg.rest, hq, subB, blobB, List.append_assoc]
  · have h0 := hq
    have e : m.rest ++ y = y := by simp [Msg.rest, hq, subB, blobB]
    rw [e]
    simp only [Rdr.fields, getM, hq, Int.reduceEq, if_true, if_false, or_self, or_true, true_or, false_or, or_false, rdig_back]
    refine Prod.ext ?_ ?_
    · simp [Msg.iff, hq]; grind
    · simp [Msg.rest, hq, subB, blobB, List.append_assoc]
  · obtain ⟨o1, _, _, v1, _⟩ := hs
    simp only [In] at o1
    have a1 : Rng m.by_ := ⟨by omega, by omega⟩
    have t1 : m.view.length ≤ 16384 := by omega
    have e : m.rest ++ y = numS m.by_ ++ (textS m.view ++ (digS m.tag ++ (digS m.own ++ (y)))) := by simp [Msg.rest, hq, subB, blobB]
    rw [e]
    simp only [Rdr.fields, getM, hq, Int.reduceEq, if_true, if_false, or_self, or_true, true_or, false_or, or_false, int_back' a1, rtext_back t1, rdig_back]
    refine Prod.ext ?_ ?_
    · simp [Msg.iff, hq]; grind
    · simp [Msg.rest, hq, subB, blobB, List.append_assoc]
  · have h0 := hq
    have e : m.rest ++ y = digS m.own ++ (y) := by simp [Msg.rest, hq, subB, blobB]
    rw [e]
    simp only [Rdr.fields, getM, hq, Int.reduceEq, if_true, if_false, or_self, or_true, true_or, false_or, or_false, rdig_back]
    refine Prod.ext ?_ ?_
    · simp [Msg.iff, hq]; grind
    · simp [Msg.rest, hq, subB, blobB, List.append_assoc]
theorem get_back {m : Msg} (hok : m.Ok) : getR m.bytes = (m, 0) := by
  have hk := hok.kinds
  have hc := hok.2.1
  simp only [In] at hc
  have hkk : 1 ≤ m.kind ∧ m.kind ≤ 11 := by omega
  have a1 : Rng m.kind := ⟨by omega, by omega⟩
  have a2 : Rng m.client := ⟨by omega, by omega⟩
  have hin : In 1 11 m.kind := hkk
  have e0 : ∀ x y, (rdAt x y).e = 0 := fun _ _ => rfl
  have hA : getA m.bytes = (m.kind, rdAt (numS m.kind) ((if m.kind = 2 ∨ m.kind = 4 ∨ m.kind = 6 then [] else [m.client].flatMap numS) ++ m.rest)) := by
    have e : (⟨m.bytes, 0, 0⟩ : Rdr) = rdAt [] (numS m.kind ++ ((if m.kind = 2 ∨ m.kind = 4 ∨ m.kind = 6 then [] else [m.client].flatMap numS) ++ m.rest)) := by
      simp [rdAt, Msg.bytes]
    simp only [getA, e, int_back' a1, hin, not_true_eq_false, and_false, if_false, List.nil_append]
  have hB : ∃ x, getB (getA m.bytes) = (m.client, rdAt x m.rest) ∧ x ++ m.rest = m.bytes := by
    rw [hA]
    unfold getB
    by_cases h : m.kind = 2 ∨ m.kind = 4 ∨ m.kind = 6
    · rw [if_pos h, if_pos h]
      have h0 : m.client = 0 := by
        have ho := hok.2.2
        rcases h with h | h | h <;> simp [Msg.own_, h, Msg.iff] at ho <;> omega
      exact ⟨numS m.kind, by rw [h0]; simp, by simp [Msg.bytes, h]⟩
    · rw [if_neg h, if_neg h]
      simp only [List.flatMap_cons, List.flatMap_nil, List.append_nil, int_back' a2]
      exact ⟨_, rfl, by simp [Msg.bytes, h]⟩
  obtain ⟨x, hB, hx⟩ := hB
  have hC : getC m.bytes = (m, rdAt (x ++ m.rest) []) := by
    have h := fields_back hok (x := x) (y := [])
    rw [List.append_nil] at h
    simp only [getC, hB]
    rw [hA]; exact h
  have h1 : ¬ (((x ++ m.rest).length : Int) < (m.bytes.length : Int) ∨ ¬ m.Ok) := by rw [hx]; simp [hok]
  simp only [getR, hC, e0, ne_eq, not_true_eq_false, if_false]
  rw [if_neg (by simpa [rdAt] using h1)]
end Go.Aff.L10

/- Layer 32, walked: awake. -/
-- cuts
namespace Go.Aff.L10
open Go.Proofs Go.Aff Go.Aff.L01 Classical
set_option linter.unusedVariables false
set_option linter.unusedSimpArgs false
set_option maxRecDepth 20000
attribute [local go_sem] push_app app_app length_app cellAt_app cellAt_app0 set_app set_app0 objs_app objs_app0 List.cons_append List.nil_append List.length_cons List.length_nil List.getElem?_cons_zero List.getElem?_cons_succ List.set_cons_zero List.set_cons_succ List.length_map
attribute [-go_sem] cellAt_new
attribute [-simp] List.length_flatMap
attribute [local go_sem] Tryz.underlying3 Tryz.underlying4 Tryz.underlying5 Tryz.underlying9 Tryz.underlying39 Tryz.underlying40 Tryz.underlying43 Tryz.underlying25 Tryz.underlying50 Tryz.underlying76 subPs_0 subAt_0 subSet_0 subPs_1 subAt_1 subSet_1 subPs_2 subAt_2 subSet_2 subPs_3 subAt_3 subSet_3 subPs_4 subAt_4 subSet_4 subPs_5 subAt_5 subSet_5 sizes_sub shapes_sub fits_sub zero_sub zt_sub built_sub Tryz.underlying42 pendPs_0 pendAt_0 pendSet_0 pendPs_1 pendAt_1 pendSet_1 pendPs_2 pendAt_2 pendSet_2 pendPs_3 pendAt_3 pendSet_3 pendPs_4 pendAt_4 pendSet_4 pendPs_5 pendAt_5 pendSet_5 sizes_pend shapes_pend fits_pend zero_pend zt_pend built_pend Tryz.underlying104 repPs_0 repAt_0 repSet_0 repPs_1 repAt_1 repSet_1 repPs_2 repAt_2 repSet_2 repPs_3 repAt_3 repSet_3 repPs_4 repAt_4 repSet_4 repPs_5 repAt_5 repSet_5 repPs_6 repAt_6 repSet_6 repPs_7 repAt_7 repSet_7 repPs_8 repAt_8 repSet_8 repPs_9 repAt_9 repSet_9 sizes_rep shapes_rep fits_rep zero_rep zt_rep built_rep Tryz.underlying45 blobPs_0 blobAt_0 blobSet_0 blobPs_1 blobAt_1 blobSet_1 blobPs_2 blobAt_2 blobSet_2 blobPs_3 blobAt_3 blobSet_3 sizes_blob shapes_blob fits_blob zero_blob zt_blob built_blob Tryz.underlying47 msgPs_0 msgAt_0 msgSet_0 msgPs_1 msgAt_1 msgSet_1 msgPs_2 msgAt_2 msgSet_2 msgPs_3 msgAt_3 msgSet_3 msgPs_4 msgAt_4 msgSet_4 msgPs_5 msgAt_5 msgSet_5 msgPs_6 msgAt_6 msgSet_6 msgPs_7 msgAt_7 msgSet_7 msgPs_8 msgAt_8 msgSet_8 msgPs_9 msgAt_9 msgSet_9 sizes_msg shapes_msg fits_msg zero_msg zt_msg built_msg Tryz.underlying49 at_Ps_0 at_Set_0 at_Ps_1 at_Set_1 sizes_at_ shapes_at_
attribute [local go_sem] fits3 fits4 fits5 fits9 fits23 fits26 fits31 fits34 fits52 zt3 zero3 zt34 zero34 zt23 zero23 bin_sub_eql bin_pend_eql bin_pend_neq bin_blob_eql bin_dig23_eql bin_dig23_neq slice23
attribute [local go_sem ↓] blockQ_exit2
attribute [local simp] dig_ext
attribute [local go_sem] postPs_0 postAt_0 postSet_0 postPs_1 postAt_1 postSet_1 postPs_2 postAt_2 postSet_2 sizes_post shapes_post fits_post zero_post zt_post built_post Tryz.underlying38 keyPs_0 keyAt_0 keySet_0 keyPs_1 keyAt_1 keySet_1 keyPs_2 keyAt_2 keySet_2 sizes_key shapes_key fits_key zero_key zt_key built_key Tryz.underlying87 conPs_0 conAt_0 conSet_0 conPs_1 conAt_1 conSet_1 sizes_con shapes_con fits_con zero_con zt_con built_con Tryz.underlying89 Tryz.underlying22 Tryz.underlying28 Tryz.underlying29 Tryz.underlying31 Tryz.underlying24 Tryz.underlying25 Tryz.underlying125 Tryz.underlying127 Tryz.underlying128 Tryz.underlying130
attribute [local go_sem] rptPs_0 rptAt_0 rptSet_0 rptPs_1 rptAt_1 rptSet_1 rptPs_2 rptAt_2 rptSet_2 rptPs_3 rptAt_3 rptSet_3 rptPs_4 rptAt_4 rptSet_4 sizes_rpt shapes_rpt fits_rpt zero_rpt zt_rpt built_rpt fits24 fits25 sizes_arrI shapes_arrI arrI_len
theorem get_what : (getR [119, 104, 97, 116]).2 ≠ 0 := by
  have h : L01.numR [119, 104, 97, 116] 0 = (0, 0, 6) := by decide
  have h1 : (Rdr.mk [119, 104, 97, 116] 0 0).int = (0, ⟨[119, 104, 97, 116], 0, 6⟩) := by simp [Rdr.int, h]
  have h2 : getA [119, 104, 97, 116] = (0, ⟨[119, 104, 97, 116], 0, 6⟩) := by simp [getA, h1]
  have h3 : (Rdr.mk [119, 104, 97, 116] 0 6).int = (0, ⟨[119, 104, 97, 116], 0, 6⟩) := by simp [Rdr.int]
  have h4 : getC [119, 104, 97, 116] = (getM 0 0, ⟨[119, 104, 97, 116], 0, 6⟩) := by simp [getC, h2, getB, h3, Rdr.fields, getM]
  simp [getR, h4]
def cm0 : Msg := { msg0 with kind := 3, view := [0] }
def cm1 : Msg := { msg0 with kind := 3, client := 1, view := [1] }
theorem cm0_ok : cm0.Ok := ⟨by simp [Msg.FieldsOk, cm0, ViewOk], by simp [In, cm0, msg0], by simp [Msg.own_, cm0, msg0]⟩
theorem cm1_ok : cm1.Ok := ⟨by simp [Msg.FieldsOk, cm1, ViewOk], by simp [In, cm1], by simp [Msg.own_, cm1, msg0]⟩
def awakeL : List Post := [⟨0, 0, cm0.bytes⟩, ⟨0, 0, [119, 104, 97, 116]⟩, ⟨0, 0, cm1.bytes⟩]
theorem kd_cm0 : kd ⟨0, 0, cm0.bytes⟩ = 3 := by unfold kd; rw [get_back cm0_ok]; rfl
theorem kd_cm1 : kd ⟨0, 0, cm1.bytes⟩ = 3 := by unfold kd; rw [get_back cm1_ok]; rfl
theorem kd_what : kd ⟨0, 0, [119, 104, 97, 116]⟩ = 0 := by unfold kd; rw [if_neg get_what]
theorem awake_k0 : kindsN awakeL 0 = 1 := by simp [kindsN, awakeL, kd_cm0, kd_cm1, kd_what]
theorem awake_k3 : kindsN awakeL 3 = 2 := by simp [kindsN, awakeL, kd_cm0, kd_cm1, kd_what]
theorem kind_cm0 : (getR cm0.bytes).1.kind = 3 := by rw [get_back cm0_ok]; rfl
theorem kind_cm1 : (getR cm1.bytes).1.kind = 3 := by rw [get_back cm1_ok]; rfl
theorem cont_kind {p : Post} (h : (getR p.b).1.kind = 3 ∨ (getR p.b).2 ≠ 0) : cont1 p = [] := by
  unfold cont1
  rw [if_neg]
  rintro ⟨h1, h2⟩
  rcases h with h | h
  · simp [named, h] at h2
  · exact h h1
theorem awake_tw : twiceN awakeL = 0 := by
  have e : conts awakeL = [] := by
    simp only [conts, awakeL, List.flatMap_cons, List.flatMap_nil, List.append_nil]
    rw [cont_kind (p := ⟨0, 0, cm0.bytes⟩) (.inl kind_cm0), cont_kind (p := ⟨0, 0, [119, 104, 97, 116]⟩) (.inr get_what), cont_kind (p := ⟨0, 0, cm1.bytes⟩) (.inl kind_cm1)]
    rfl
  unfold twiceN; rw [e]; exact L32.twos_nil
theorem vStep_of {i : Nat} {p : Post} {m : Msg} (h : getR p.b = (m, 0)) (hm : comM32 m) : vStep i p = [(m.view, (i : Int))] := by
  unfold vStep; rw [h]; simp [hm]
theorem awake_v : vws awakeL 3 = [([0], 0), ([1], 2)] := by
  have c0 : vStep 0 ⟨0, 0, cm0.bytes⟩ = [([0], 0)] := vStep_of (p := ⟨0, 0, cm0.bytes⟩) (m := cm0) (get_back cm0_ok) (.inl rfl)
  have c1 : ∀ i, vStep i ⟨0, 0, [119, 104, 97, 116]⟩ = [] := fun i => by unfold vStep; rw [if_neg (fun h => get_what h.1)]
  have c2 : vStep 2 ⟨0, 0, cm1.bytes⟩ = [([1], 2)] := vStep_of (i := 2) (p := ⟨0, 0, cm1.bytes⟩) (m := cm1) (get_back cm1_ok) (.inl rfl)
  have g0 : awakeL[0]? = some ⟨0, 0, cm0.bytes⟩ := by simp only [awakeL, List.getElem?_cons_succ, List.getElem?_cons_zero]
  have g1 : awakeL[1]? = some ⟨0, 0, [119, 104, 97, 116]⟩ := by simp only [awakeL, List.getElem?_cons_succ, List.getElem?_cons_zero]
  have g2 : awakeL[2]? = some ⟨0, 0, cm1.bytes⟩ := by simp only [awakeL, List.getElem?_cons_succ, List.getElem?_cons_zero]
  have n0 := vws_next g0
  have n1 := vws_next g1
  have n2 := vws_next g2
  rw [n2, n1, n0]
  rw [show vStep 0 ⟨0, 0, cm0.bytes⟩ = [([0], 0)] from c0, c1, c2]
  simp [vws]
theorem awake_ft {F T : Int} (h : RepP awakeL F T) : F = 0 ∧ T = 2 := by
  obtain ⟨a, b, hF, h⟩ := h
  have e : vwsV awakeL = [[0], [1]] := by
    have := vws_views (l := awakeL)
    rw [← this]
    show (vws awakeL 3).map _ = _
    rw [awake_v]; rfl
  rw [e] at hF
  obtain ⟨rfl, rfl⟩ := L09.fork_found (k := 1) (i := 0) (x := [0]) (y := [1]) hF (fun k' i' h1 h2 x y hx hy => by omega) (by decide) rfl rfl (by decide)
  rcases h with ⟨h, _⟩ | ⟨_, _, h3, h4⟩
  · omega
  · have e2 : vws awakeL awakeL.length = [([0], 0), ([1], 2)] := awake_v
    rw [e2] at h3 h4
    simp at h3 h4
    exact ⟨h3.symm, h4.symm⟩
theorem awake_c {σ : AST} {K : AV → AST → Prop} (hK : K (.bool true) σ) : TCalls Tryz.prog 7 [] σ K := by
  refine TCalls.drop ?_
  have k0 := cm0_ok
  have k1 := cm1_ok
  have e0 : (⟨3, msg0.client, msg0.sub, msg0.rep, [0], msg0.by_, msg0.tag, msg0.own, msg0.blob, msg0.nums⟩ : Msg) = cm0 := rfl
  have e1 : (⟨3, 1, msg0.sub, msg0.rep, [1], msg0.by_, msg0.tag, msg0.own, msg0.blob, msg0.nums⟩ : Msg) = cm1 := rfl
  have p0 : (⟨post0.frm, post0.to, cm0.bytes⟩ : Post) = ⟨0, 0, cm0.bytes⟩ := rfl
  refine tcalls_walk Tryz.f7 _ [.tmp 0] Tryz.func7 rfl rfl rfl mixed (Nat.le_of_ble_eq_true rfl) rfl fun hlen => ?_
  repeat' (first | (simp -dsimp only [↓reduceIte, go_sem, e0, e1, k0, k1]) | (refine arr_intro fun _ => ?_) | (rw [wrap_i64 (by omega) (by omega)]) | (refine guardV_split (fun h => ?_) (fun h => ?_) <;> (try rw [h]) <;> (try simp at h) <;> (try (exfalso; omega))) | ((refine put_c ?_)) | (refine build_slice E22 rfl (by decide) (by intro v hv; simp at hv; rcases hv with rfl | rfl | rfl <;> simp [go_sem]) ?_))
  have hps : [AV.agg (postPs ⟨post0.frm, post0.to, cm0.bytes⟩), .agg (postPs ⟨post0.frm, post0.to, [119, 104, 97, 116]⟩), .agg (postPs ⟨post0.frm, post0.to, cm1.bytes⟩)] = awakeL.map postV := rfl
  rw [hps]
  refine read_c (by decide) fun F T hr => ?_
  obtain ⟨rfl, rfl⟩ := awake_ft hr
  have i0 := awake_k0
  have i3 := awake_k3
  have it := awake_tw
  generalize hx : rptOf awakeL 0 2 = x
  have x1 : x.first = 0 := by rw [← hx]; rfl
  have x2 : x.then_ = 2 := by rw [← hx]; rfl
  have x3 : x.kinds 0 = 1 := by rw [← hx]; exact i0
  have x4 : x.kinds 3 = 2 := by rw [← hx]; exact i3
  have x5 : x.twice = 0 := by rw [← hx]; show ((twiceN awakeL : Nat) : Int) = 0; rw [it]; rfl
  have r0 : ∀ k, k < 12 → (AV.agg (rptPs x)).at [0, k] = some (.int .i64 (x.kinds k)) := fun k => rat0
  have c0 : ∀ p, cellAt (σ.app [.cells (rptV x)]) σ.objs.length p = (AV.agg (rptPs x)).at p := fun p => by rw [cellAt_app0]; rfl
  repeat' (first | (simp -dsimp only [↓reduceIte, go_sem, x1, x2, x3, x4, x5, rat0 (x := x) (k := 0) (by decide), rat0 (x := x) (k := 3) (by decide)]) | (refine arr_intro fun _ => ?_) | (rw [wrap_i64 (by omega) (by omega)]) | (refine guardV_split (fun h => ?_) (fun h => ?_) <;> (try rw [h]) <;> (try simp at h) <;> (try (exfalso; omega))) | (refine idx0 (k := 0) c0 (by decide) ?_) | (refine idx0 (k := 3) c0 (by decide) ?_))
  exact ⟨Ext.app _ _, rfl, by simpa [AV.strip] using hK⟩
theorem i64s_arrI {f : Nat → Int} : ∀ {l : List Nat}, i64s (l.map fun j => AV.int .i64 (f j)) = some (l.map f)
  | [] => rfl
  | a :: l => by simp only [List.map_cons, i64s, i64s_arrI (l := l)]; rfl
theorem eqI_arrI {n : Nat} {f g : Nat → Int} : eqI (arrI n f) (arrI n g) = some ((List.range n).map f == (List.range n).map g) := by
  unfold eqI arrI; rw [i64s_arrI, i64s_arrI]
theorem bin_arr {t n : Nat} {f g : Nat → Int} {KV : AV → Prop} (hu : Tryz.prog.underlying t = some (.array n 3)) (hg : Tryz.prog.eqGuardType Tryz.prog.depth t = false) (he : ∀ j, j < n → f j = g j) (hK : KV (.bool true)) : binW Tryz.prog .eql t (.agg (arrI n f)) (.agg (arrI n g)) KV := by
  have h1 : isI64 Tryz.prog 3 = true := by unfold isI64; rw [Tryz.underlying3]
  have h2 : Tryz.prog.cellsOf 3 = 1 := by kernel_rfl
  refine ⟨hg, true, ?_, hK⟩
  simp only [eqA, hu, h1, h2, arrI_len, true_and, and_true]
  rw [if_pos (by omega), eqI_arrI]
  have : (List.range n).map f = (List.range n).map g := List.map_congr_left fun j hj => he j (by simpa using hj)
  rw [this]; simp
theorem bin_arr24 {f g : Nat → Int} {KV : AV → Prop} (he : ∀ j, f j = g j) (hK : KV (.bool true)) : binW Tryz.prog .eql 28 (.agg (arrI 12 f)) (.agg (arrI 12 g)) KV := bin_arr Tryz.underlying28 (by kernel_rfl) (fun j _ => he j) hK
theorem bin_arr25 {f g : Nat → Int} {KV : AV → Prop} (he : ∀ j, f j = g j) (hK : KV (.bool true)) : binW Tryz.prog .eql 29 (.agg (arrI 8 f)) (.agg (arrI 8 g)) KV := bin_arr Tryz.underlying29 (by kernel_rfl) (fun j _ => he j) hK
theorem vws_twice {l : List Post} : (vws (l ++ l) (l ++ l).length).length = 2 * (vws l l.length).length := by
  have h1 := congrArg List.length (vws_views (l := l ++ l))
  have h2 := congrArg List.length (vws_views (l := l))
  rw [vwsV_app] at h1
  simp only [List.length_map, List.length_append] at h1 h2 ⊢
  omega
end Go.Aff.L10

