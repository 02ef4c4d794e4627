import Derived.Test.YtipnjeciaagabaaG35

set_option linter.unusedSimpArgs false
set_option linter.unusedVariables false

/- Layer 27, walked: OfflineSent. -/
-- cuts
namespace Go.Aff.L10
open Go.Proofs Go.Aff Go.Aff.L01 Classical
set_option linter.unusedVariables false
set_option linter.unusedSimpArgs false
set_option maxRecDepth 20000
attribute [local go_sem] push_app app_app length_app cellAt_app cellAt_app0 set_app set_app0 objs_app objs_app0 List.cons_append List.nil_append List.length_cons List.length_nil List.getElem?_cons_zero List.getElem?_cons_succ List.set_cons_zero List.set_cons_succ List.length_map
attribute [-go_sem] cellAt_new
attribute [-simp] List.length_flatMap
attribute [local go_sem] Try.underlying3 Try.underlying4 Try.underlying5 Try.underlying9 Try.underlying29 Try.underlying30 Try.underlying33 Try.underlying38 Try.underlying24 Try.underlying89 subPs_0 subAt_0 subSet_0 subPs_1 subAt_1 subSet_1 subPs_2 subAt_2 subSet_2 subPs_3 subAt_3 subSet_3 subPs_4 subAt_4 subSet_4 subPs_5 subAt_5 subSet_5 sizes_sub shapes_sub fits_sub zero_sub zt_sub built_sub Try.underlying32 pendPs_0 pendAt_0 pendSet_0 pendPs_1 pendAt_1 pendSet_1 pendPs_2 pendAt_2 pendSet_2 pendPs_3 pendAt_3 pendSet_3 pendPs_4 pendAt_4 pendSet_4 pendPs_5 pendAt_5 pendSet_5 sizes_pend shapes_pend fits_pend zero_pend zt_pend built_pend Try.underlying98 repPs_0 repAt_0 repSet_0 repPs_1 repAt_1 repSet_1 repPs_2 repAt_2 repSet_2 repPs_3 repAt_3 repSet_3 repPs_4 repAt_4 repSet_4 repPs_5 repAt_5 repSet_5 repPs_6 repAt_6 repSet_6 repPs_7 repAt_7 repSet_7 repPs_8 repAt_8 repSet_8 repPs_9 repAt_9 repSet_9 sizes_rep shapes_rep fits_rep zero_rep zt_rep built_rep Try.underlying35 blobPs_0 blobAt_0 blobSet_0 blobPs_1 blobAt_1 blobSet_1 blobPs_2 blobAt_2 blobSet_2 blobPs_3 blobAt_3 blobSet_3 sizes_blob shapes_blob fits_blob zero_blob zt_blob built_blob Try.underlying37 msgPs_0 msgAt_0 msgSet_0 msgPs_1 msgAt_1 msgSet_1 msgPs_2 msgAt_2 msgSet_2 msgPs_3 msgAt_3 msgSet_3 msgPs_4 msgAt_4 msgSet_4 msgPs_5 msgAt_5 msgSet_5 msgPs_6 msgAt_6 msgSet_6 msgPs_7 msgAt_7 msgSet_7 msgPs_8 msgAt_8 msgSet_8 msgPs_9 msgAt_9 msgSet_9 sizes_msg shapes_msg fits_msg zero_msg zt_msg built_msg Try.underlying40 at_Ps_0 at_Set_0 at_Ps_1 at_Set_1 sizes_at_ shapes_at_
attribute [local go_sem] fits3 fits4 fits5 fits9 fits23 fits26 fits31 fits34 fits52 zt3 zero3 zt34 zero34 zt23 zero23 bin_sub_eql bin_pend_eql bin_pend_neq bin_blob_eql bin_dig23_eql bin_dig23_neq slice23
attribute [local go_sem ↓] blockQ_exit2
attribute [local simp] dig_ext
attribute [local go_sem] sndPs_0 sndAt_0 sndSet_0 sndPs_1 sndAt_1 sndSet_1 sizes_snd shapes_snd fits_snd zero_snd zt_snd built_snd Try.underlying42 askPs_0 askAt_0 askSet_0 askPs_1 askAt_1 askSet_1 askPs_2 askAt_2 askSet_2 askPs_3 askAt_3 askSet_3 askPs_4 askAt_4 askSet_4 sizes_ask shapes_ask fits_ask zero_ask zt_ask built_ask Try.underlying44 let_Ps_0 let_At_0 let_Set_0 let_Ps_1 let_At_1 let_Set_1 sizes_let_ shapes_let_ fits_let_ zero_let_ zt_let_ built_let_ Try.underlying74 netPs_0 netAt_0 netSet_0 netPs_1 netAt_1 netSet_1 sizes_net shapes_net fits_net zero_net zt_net built_net Try.underlying71 rletPs_0 rletAt_0 rletSet_0 rletPs_1 rletAt_1 rletSet_1 sizes_rlet shapes_rlet fits_rlet zero_rlet zt_rlet built_rlet Try.underlying60 rnetPs_0 rnetAt_0 rnetSet_0 rnetPs_1 rnetAt_1 rnetSet_1 sizes_rnet shapes_rnet fits_rnet zero_rnet zt_rnet built_rnet Try.underlying56 Try.underlying69 Try.underlying54 Try.underlying23 Try.underlying53
attribute [local go_sem] fits69 fits54'
attribute [local go_sem] Try.underlying22 Try.underlying28
theorem eq_rlet {a b : RLet} : eqA Try.prog 40 60 (.agg (rletPs a)) (.agg (rletPs b)) = some (decide (a = b)) := by
  have hs : Try.prog.stoodInHeld 60 = false := by kernel_rfl
  simp only [eqA, Try.underlying60, hs, if_true]
  unfold rletPs
  rw [eqAs_cons ⟨by decide, by simp [AV.sizes, AV.size], by simp [AV.sizes, AV.size], by kernel_rfl, by simp [AV.size]; kernel_rfl, by kernel_rfl, by simp [AV.size]; kernel_rfl⟩ eq_int3]
  refine (Classical.em (a.to = b.to)).elim (fun h0 => ?_) (fun h0 => by rw [if_neg (by simpa [dig_ext] using h0), decide_eq_false (fun e => h0 (congrArg RLet.to e))])
  rw [if_pos (by simpa [dig_ext] using h0)]
  rw [eqAs_cons ⟨by decide, by simp [AV.sizes, AV.size], by simp [AV.sizes, AV.size], by kernel_rfl, by simp [AV.size]; kernel_rfl, by kernel_rfl, by simp [AV.size]; kernel_rfl⟩ eq_str9]
  refine (Classical.em (a.b = b.b)).elim (fun h1 => ?_) (fun h1 => by rw [if_neg (by simpa [dig_ext] using h1), decide_eq_false (fun e => h1 (congrArg RLet.b e))])
  rw [if_pos (by simpa [dig_ext] using h1)]
  rw [decide_eq_true (by cases a; cases b; simp_all)]; simp only [eqAs]
theorem bin_rlet_eql {a b : RLet} {KV : AV → Prop} : binW Try.prog .eql 60 (.agg (rletPs a)) (.agg (rletPs b)) KV = KV (.bool (decide (a = b))) := by
  have h : Try.prog.eqGuardType Try.prog.depth 60 = false := by kernel_rfl
  simp [binW, eqW, eq_rlet, h]
theorem bin_rlet_neq {a b : RLet} {KV : AV → Prop} : binW Try.prog .neq 60 (.agg (rletPs a)) (.agg (rletPs b)) KV = KV (.bool !(decide (a = b))) := by
  have h : Try.prog.eqGuardType Try.prog.depth 60 = false := by kernel_rfl
  simp [binW, eqW, eq_rlet, h]
attribute [local go_sem] bin_rlet_eql
theorem awp_join {P : Program} {c : Code} {K : Env → AST → Prop} {Q : Exit → Env → AST → Prop} {τ : Env} {σ : AST} (J : Env → AST → Prop) (h : ∀ KR : Env → AST → Prop, (∀ τ σ, J τ σ → KR τ σ) → awp P c (thenQ KR Q) τ σ) (hK : ∀ τ σ, J τ σ → K τ σ) : awp P c (thenQ K Q) τ σ := h K hK
noncomputable def cnt (x : RLet) (l : List RLet) : Nat := l.countP fun y => decide (y = x)
theorem cnt_add {x y : RLet} {l : List RLet} : cnt x (l ++ [y]) = cnt x l + (if y = x then 1 else 0) := by
  unfold cnt; rw [List.countP_append]; simp [List.countP_cons]
theorem cnt_next {x : RLet} {l : List RLet} {i : Nat} {y : RLet} (h : l[i]? = some y) : cnt x (l.take (i + 1)) = cnt x (l.take i) + (if y = x then 1 else 0) := by
  rw [List.take_add_one, h]; exact cnt_add
theorem cnt_out {x y : RLet} {l : List RLet} {i : Nat} (h : l[i]? = some y) : cnt x (l.take i ++ l.drop (i + 1)) + (if y = x then 1 else 0) = cnt x l := by
  have hi := (List.getElem?_eq_some_iff.1 h).1
  have hx := (List.getElem?_eq_some_iff.1 h).2
  have hl : l = l.take i ++ y :: l.drop (i + 1) := by
    conv => lhs; rw [← List.take_append_drop i l, List.drop_eq_getElem_cons hi, hx]
  conv => rhs; rw [hl]
  unfold cnt
  rw [List.countP_append, List.countP_append, List.countP_cons]
  by_cases e : y = x <;> simp [e] <;> omega
theorem cnt_le {x : RLet} {l : List RLet} : cnt x l ≤ l.length := List.countP_le_length ..
theorem times_c {l : List RLet} {x : RLet} {tk : Tk} {σ : AST} {K : AV → AST → Prop} (hl : l.length ≤ 1000) (hK : K (.int .i64 (cnt x l)) σ) : TCalls Try.prog 24 [.slice tk (l.map rletV), rletV x] σ K := by
  refine TCalls.drop ?_
  have hb0 : (σ.app [.cells (rletV x)]).objs[σ.objs.length]? = some (.cells (rletV x)) := objs_app0
  have cb := cellAt_known hb0
  refine tcalls_walk Try.f24 _ [.tmp 4] Try.func24 rfl rfl rfl mixed (Nat.le_of_ble_eq_true rfl) rfl fun hlen => ?_
  simp -dsimp only [↓reduceIte, go_sem]
  refine awp_rounds (fun (i : Nat) τ s' => s' = σ.app [.cells (rletV x)] ∧ i ≤ l.length ∧ τ 0 = .slice tk (l.map rletV) ∧ τ 3 = .ptr (some (σ.objs.length, [])) ∧ τ 5 = .int .i64 (cnt x (l.take i)) ∧ τ 6 = .int .i64 i) (fun i => l.length - i) 0 ?_ ?_
  · refine ⟨rfl, by omega, ?_, ?_, ?_, ?_⟩ <;> (try simp only [go_sem]) <;> rfl
  · rintro i τ s' ⟨rfl, hi, t0, t3, t5, t6⟩
    by_cases hil : i < l.length
    · have hi1 : (i : Int) < l.length := by omega
      obtain ⟨y, hy, _⟩ := get_of_lt hil
      have hc := cnt_next (x := x) hy
      have hcl : cnt x (l.take i) ≤ i := Nat.le_trans cnt_le (by simp; omega)
      by_cases hyx : y = x
      · rw [if_pos hyx] at hc
        repeat' (first | (simp -dsimp only [↓reduceIte, go_sem, t0, t3, t5, t6, hi1, cb, hyx]) | (refine arr_intro fun _ => ?_) | (refine later_intro ⟨keeps_nil, ?_⟩) | (refine later_intro ⟨keeps_refl, ?_⟩) | (with_reducible refine keeps_go ?_ ?_; focus (first | (simp [keeps_cons, keeps_none, objs_app, objs_app0]; done) | (simp only [keeps_cons, keeps_none, objs_app0, objs_app, and_true]; first | rfl | exact ⟨rfl, rfl⟩ | exact ⟨rfl, rfl, rfl⟩))) | (with_reducible refine (And.intro (a := keeps _ _ _) ?_ ?_); focus (first | (simp [keeps_cons, keeps_none, objs_app, objs_app0]; done) | (simp only [keeps_cons, keeps_none, objs_app0, objs_app, and_true]; first | rfl | exact ⟨rfl, rfl⟩ | exact ⟨rfl, rfl, rfl⟩))) | (refine both_ways ?_ ?_) | (rw [wrap_i64 (by omega) (by omega)]) | (refine guardV_split (fun h => ?_) (fun h => ?_) <;> (try rw [h]) <;> (try simp at h) <;> (try (exfalso; omega))) | (with_reducible refine awp_drawS (id := 5) [0, 1, 2, 3, 4, 5] (by kernel_rfl) ?_) | (refine nth_get hy ?_))
        exact ⟨i + 1, by omega, by omega, by rw [hc]; rfl, rfl⟩
      · rw [if_neg hyx, Nat.add_zero] at hc
        repeat' (first | (simp -dsimp only [↓reduceIte, go_sem, t0, t3, t5, t6, hi1, cb, hyx]) | (refine arr_intro fun _ => ?_) | (refine later_intro ⟨keeps_nil, ?_⟩) | (refine later_intro ⟨keeps_refl, ?_⟩) | (with_reducible refine keeps_go ?_ ?_; focus (first | (simp [keeps_cons, keeps_none, objs_app, objs_app0]; done) | (simp only [keeps_cons, keeps_none, objs_app0, objs_app, and_true]; first | rfl | exact ⟨rfl, rfl⟩ | exact ⟨rfl, rfl, rfl⟩))) | (with_reducible refine (And.intro (a := keeps _ _ _) ?_ ?_); focus (first | (simp [keeps_cons, keeps_none, objs_app, objs_app0]; done) | (simp only [keeps_cons, keeps_none, objs_app0, objs_app, and_true]; first | rfl | exact ⟨rfl, rfl⟩ | exact ⟨rfl, rfl, rfl⟩))) | (refine both_ways ?_ ?_) | (rw [wrap_i64 (by omega) (by omega)]) | (refine guardV_split (fun h => ?_) (fun h => ?_) <;> (try rw [h]) <;> (try simp at h) <;> (try (exfalso; omega))) | (with_reducible refine awp_drawS (id := 5) [0, 1, 2, 3, 4, 5] (by kernel_rfl) ?_) | (refine nth_get hy ?_))
        exact ⟨i + 1, by omega, by omega, by rw [hc]; rfl, rfl⟩
    · have he : i = l.length := by omega
      subst he
      rw [List.take_length] at t5
      repeat' (first | (simp -dsimp only [↓reduceIte, go_sem, t0, t3, t5, t6]) | (refine arr_intro fun _ => ?_) | (refine later_intro ⟨keeps_nil, ?_⟩) | (refine later_intro ⟨keeps_refl, ?_⟩) | (with_reducible refine keeps_go ?_ ?_; focus (first | (simp [keeps_cons, keeps_none, objs_app, objs_app0]; done) | (simp only [keeps_cons, keeps_none, objs_app0, objs_app, and_true]; first | rfl | exact ⟨rfl, rfl⟩ | exact ⟨rfl, rfl, rfl⟩))) | (with_reducible refine (And.intro (a := keeps _ _ _) ?_ ?_); focus (first | (simp [keeps_cons, keeps_none, objs_app, objs_app0]; done) | (simp only [keeps_cons, keeps_none, objs_app0, objs_app, and_true]; first | rfl | exact ⟨rfl, rfl⟩ | exact ⟨rfl, rfl, rfl⟩))) | (refine both_ways ?_ ?_) | (rw [wrap_i64 (by omega) (by omega)]) | (refine guardV_split (fun h => ?_) (fun h => ?_) <;> (try rw [h]) <;> (try simp at h) <;> (try (exfalso; omega))))
      exact ⟨Ext.app _ _, rfl, by simpa [AV.strip] using hK⟩
section
variable {σ0 s s2 : AST} {j k : Nat} {c cr c' cr' : Int} {l l' : List Let} {lr lr' : List RLet} {F : List (Nat × AObj)}
theorem Two.retok (h : Two σ0 s j k c l cr lr F) : Two ⟨σ0.objs, s.toks⟩ s j k c l cr lr F := ⟨Go.Aff.L10.retok h.x, h.jn, h.kn, h.jk, h.oj, h.ok, h.f⟩
theorem Two.untok (h0 : Two σ0 s j k c l cr lr F) (h : Two ⟨σ0.objs, s.toks⟩ s2 j k c' l' cr' lr' F) : Two σ0 s2 j k c' l' cr' lr' F := ⟨Go.Aff.L10.untok h0.x h.x, h0.jn, h0.kn, h0.jk, h.oj, h.ok, h.f⟩
theorem Two.grow {tk : Tk} {n e : Nat} (h : Two σ0 s j k c l cr lr F) (ht : tkNew σ0 tk) : Two σ0 (growS s tk n e) j k c l cr lr F := by
  obtain ⟨t, o⟩ := h.oj
  obtain ⟨u, q⟩ := h.ok
  exact ⟨h.x.grow ht, h.jn, h.kn, h.jk, ⟨t, by rw [growS_objs]; exact o⟩, ⟨u, by rw [growS_objs]; exact q⟩, fun x hx => ⟨(h.f x hx).1, (h.f x hx).2.1, by rw [growS_objs]; exact (h.f x hx).2.2⟩⟩
theorem app_nil : s.app [] = s := by simp [AST.app]
theorem Two.setR0 (h : Two σ0 s j k c l cr lr F) {m n : Nat} {tk : Tk} :
    Two σ0 ((growS (growS s .full m 2) (growT s .full) n 2).set k (.cells (rnetV tk ⟨cr, lr'⟩))) j k c l cr lr' F := by
  have := h.setR (a := []) (m := m) (n := n) (tk := tk) (lr' := lr')
  rw [app_nil] at this; exact this
end
/-- What holds between two acts. -/
structure SentI (σ s : AST) (j k : Nat) (l : List Let) (ins outs : List RLet) (tI tO : Tk) (i : Nat) (F : List (Nat × AObj)) : Prop where
  T : Two σ s j k 4 l 4 (l.map toR) F
  hl : l.length ≤ 128
  nI : tkNew σ tI
  nO : tkNew σ tO
  ap : apart tI tO
  cI : canApp s tI ins.length 2
  cO : canApp s tO outs.length 2
  bal : ∀ y, cnt y (l.map toR) + cnt y outs ≤ cnt y ins
  len : l.length + outs.length ≤ ins.length
  sI : ins.length ≤ i
section
variable {σ s : AST} {j k : Nat} {l : List Let} {ins outs : List RLet} {tI tO : Tk} {i : Nat} {F : List (Nat × AObj)}
theorem SentI.mono (h : SentI σ s j k l ins outs tI tO i F) {i' : Nat} (hi : i ≤ i') : SentI σ s j k l ins outs tI tO i' F := ⟨h.T, h.hl, h.nI, h.nO, h.ap, h.cI, h.cO, h.bal, h.len, Nat.le_trans h.sI hi⟩
theorem SentI.less {y : Nat × AObj} (h : SentI σ s j k l ins outs tI tO i (y :: F)) : SentI σ s j k l ins outs tI tO i F := ⟨h.T.less, h.hl, h.nI, h.nO, h.ap, h.cI, h.cO, h.bal, h.len, h.sI⟩
theorem SentI.box (h : SentI σ s j k l ins outs tI tO i F) (o : AObj) : SentI σ (s.app [o]) j k l ins outs tI tO i ((s.objs.length, o) :: F) :=
  ⟨h.T.box o, h.hl, h.nI, h.nO, h.ap, by rw [canApp_app]; exact h.cI, by rw [canApp_app]; exact h.cO, h.bal, h.len, h.sI⟩
theorem SentI.keep {s' : AST} (h : SentI σ s j k l ins outs tI tO i F) (h' : Two ⟨σ.objs, s.toks⟩ s' j k 4 l 4 (l.map toR) F) : SentI σ s' j k l ins outs tI tO i F :=
  ⟨h.T.untok h', h.hl, h.nI, h.nO, h.ap, canApp_keep h'.x h.cI, canApp_keep h'.x h.cO, h.bal, h.len, h.sI⟩
theorem bal_in {x : Let} (h : ∀ y, cnt y (l.map toR) + cnt y outs ≤ cnt y ins) : ∀ y, cnt y ((l ++ [x]).map toR) + cnt y outs ≤ cnt y (ins ++ [toR x]) := fun y => by
  have := h y
  rw [List.map_append, cnt_add]
  simp only [List.map_cons, List.map_nil, cnt_add]
  omega
theorem bal_out {x : Let} {n : Nat} (hx : l[n]? = some x) (h : ∀ y, cnt y (l.map toR) + cnt y outs ≤ cnt y ins) : ∀ y, cnt y ((l.take n ++ l.drop (n + 1)).map toR) + cnt y (outs ++ [toR x]) ≤ cnt y ins := fun y => by
  have := h y
  have e := cnt_out (x := y) (l := l.map toR) (i := n) (y := toR x) (by simp [hx])
  rw [out_map] at e
  rw [cnt_add]
  omega
theorem bal_lose {x : Let} {n : Nat} (hx : l[n]? = some x) (h : ∀ y, cnt y (l.map toR) + cnt y outs ≤ cnt y ins) : ∀ y, cnt y ((l.take n ++ l.drop (n + 1)).map toR) + cnt y outs ≤ cnt y ins := fun y => by
  have := h y
  have e := cnt_out (x := y) (l := l.map toR) (i := n) (y := toR x) (by simp [hx])
  rw [out_map] at e
  omega
/-- Behind the act a letter more is in. -/
theorem SentI.more {x : Let} {s1 s2 : AST} (h : SentI σ s j k l ins outs tI tO i F) (h1 : Two ⟨σ.objs, s.toks⟩ s1 j k 4 (l ++ [x]) 4 (l.map toR) F) (hl : (l ++ [x]).length ≤ 128)
    (h2 : Two ⟨σ.objs, (growS s1 tI (ins.length + 1) 2).toks⟩ s2 j k 4 (l ++ [x]) 4 ((l ++ [x]).map toR) F) : SentI σ s2 j k (l ++ [x]) (ins ++ [toR x]) outs (growT s1 tI) tO (i + 1) F :=
  have h1' := h.T.untok h1
  have cI1 := canApp_keep h1.x h.cI
  have cO1 := canApp_keep h1.x h.cO
  ⟨(h1'.grow (n := ins.length + 1) (e := 2) h.nI).untok h2, hl, h.nI.grow h1'.x, h.nO, apart_grow h.ap cO1, canApp_keep h2.x (by rw [List.length_append]; exact canApp_grow cI1), canApp_keep h2.x (canApp_apart h.ap cO1), bal_in h.bal, by
    have := h.len; simp at this ⊢; omega, by have := h.sI; simp; omega⟩
/-- Behind the act a letter is out. -/
theorem SentI.gone {x : Let} {n : Nat} (hx : l[n]? = some x) {s1 s2 : AST} (h : SentI σ s j k l ins outs tI tO i F) (h1 : Two ⟨σ.objs, s.toks⟩ s1 j k 4 (l.take n ++ l.drop (n + 1)) 4 (l.map toR) F)
    (h2 : Two ⟨σ.objs, (growS s1 tO (outs.length + 1) 2).toks⟩ s2 j k 4 (l.take n ++ l.drop (n + 1)) 4 ((l.take n ++ l.drop (n + 1)).map toR) F) : SentI σ s2 j k (l.take n ++ l.drop (n + 1)) ins (outs ++ [toR x]) tI (growT s1 tO) i F :=
  have h1' := h.T.untok h1
  have cI1 := canApp_keep h1.x h.cI
  have cO1 := canApp_keep h1.x h.cO
  have hn := (List.getElem?_eq_some_iff.1 hx).1
  ⟨(h1'.grow (n := outs.length + 1) (e := 2) h.nO).untok h2, out_len h.hl, h.nI, h.nO.grow h1'.x, (apart_grow h.ap.symm cI1).symm, canApp_keep h2.x (canApp_apart h.ap.symm cI1), canApp_keep h2.x (by rw [List.length_append]; exact canApp_grow cO1), bal_out hx h.bal, by
    have := h.len; simp at this ⊢; omega, h.sI⟩
theorem SentI.lost {x : Let} {n : Nat} (hx : l[n]? = some x) {s1 : AST} (h : SentI σ s j k l ins outs tI tO i F) (h1 : Two ⟨σ.objs, s.toks⟩ s1 j k 4 (l.take n ++ l.drop (n + 1)) 4 ((l.take n ++ l.drop (n + 1)).map toR) F) :
    SentI σ s1 j k (l.take n ++ l.drop (n + 1)) ins outs tI tO i F :=
  have hn := (List.getElem?_eq_some_iff.1 hx).1
  ⟨h.T.untok h1, out_len h.hl, h.nI, h.nO, h.ap, canApp_keep h1.x h.cI, canApp_keep h1.x h.cO, bal_lose hx h.bal, by have := h.len; simp at this ⊢; omega, h.sI⟩
end
end Go.Aff.L10

