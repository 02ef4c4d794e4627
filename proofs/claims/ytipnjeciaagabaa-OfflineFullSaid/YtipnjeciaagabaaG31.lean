import Derived.Test.YtipnjeciaagabaaG30

set_option linter.unusedSimpArgs false
set_option linter.unusedVariables false

/- Layer 27, walked: both nets together. -/
-- cuts
namespace Go.Aff.L10
open Go.Proofs Go.Aff Go.Aff.L01 Classical
set_option linter.unusedVariables false
set_option linter.unusedSimpArgs false
set_option maxRecDepth 20000
attribute [local go_sem] push_app app_app length_app cellAt_app cellAt_app0 set_app set_app0 objs_app objs_app0 List.cons_append List.nil_append List.length_cons List.length_nil List.getElem?_cons_zero List.getElem?_cons_succ List.set_cons_zero List.set_cons_succ List.length_map
attribute [-go_sem] cellAt_new
attribute [-simp] List.length_flatMap
attribute [local go_sem] Try.underlying3 Try.underlying4 Try.underlying5 Try.underlying9 Try.underlying29 Try.underlying30 Try.underlying33 Try.underlying38 Try.underlying24 Try.underlying89 subPs_0 subAt_0 subSet_0 subPs_1 subAt_1 subSet_1 subPs_2 subAt_2 subSet_2 subPs_3 subAt_3 subSet_3 subPs_4 subAt_4 subSet_4 subPs_5 subAt_5 subSet_5 sizes_sub shapes_sub fits_sub zero_sub zt_sub built_sub Try.underlying32 pendPs_0 pendAt_0 pendSet_0 pendPs_1 pendAt_1 pendSet_1 pendPs_2 pendAt_2 pendSet_2 pendPs_3 pendAt_3 pendSet_3 pendPs_4 pendAt_4 pendSet_4 pendPs_5 pendAt_5 pendSet_5 sizes_pend shapes_pend fits_pend zero_pend zt_pend built_pend Try.underlying98 repPs_0 repAt_0 repSet_0 repPs_1 repAt_1 repSet_1 repPs_2 repAt_2 repSet_2 repPs_3 repAt_3 repSet_3 repPs_4 repAt_4 repSet_4 repPs_5 repAt_5 repSet_5 repPs_6 repAt_6 repSet_6 repPs_7 repAt_7 repSet_7 repPs_8 repAt_8 repSet_8 repPs_9 repAt_9 repSet_9 sizes_rep shapes_rep fits_rep zero_rep zt_rep built_rep Try.underlying35 blobPs_0 blobAt_0 blobSet_0 blobPs_1 blobAt_1 blobSet_1 blobPs_2 blobAt_2 blobSet_2 blobPs_3 blobAt_3 blobSet_3 sizes_blob shapes_blob fits_blob zero_blob zt_blob built_blob Try.underlying37 msgPs_0 msgAt_0 msgSet_0 msgPs_1 msgAt_1 msgSet_1 msgPs_2 msgAt_2 msgSet_2 msgPs_3 msgAt_3 msgSet_3 msgPs_4 msgAt_4 msgSet_4 msgPs_5 msgAt_5 msgSet_5 msgPs_6 msgAt_6 msgSet_6 msgPs_7 msgAt_7 msgSet_7 msgPs_8 msgAt_8 msgSet_8 msgPs_9 msgAt_9 msgSet_9 sizes_msg shapes_msg fits_msg zero_msg zt_msg built_msg Try.underlying40 at_Ps_0 at_Set_0 at_Ps_1 at_Set_1 sizes_at_ shapes_at_
attribute [local go_sem] fits3 fits4 fits5 fits9 fits23 fits26 fits31 fits34 fits52 zt3 zero3 zt34 zero34 zt23 zero23 bin_sub_eql bin_pend_eql bin_pend_neq bin_blob_eql bin_dig23_eql bin_dig23_neq slice23
attribute [local go_sem ↓] blockQ_exit2
attribute [local simp] dig_ext
attribute [local go_sem] sndPs_0 sndAt_0 sndSet_0 sndPs_1 sndAt_1 sndSet_1 sizes_snd shapes_snd fits_snd zero_snd zt_snd built_snd Try.underlying42 askPs_0 askAt_0 askSet_0 askPs_1 askAt_1 askSet_1 askPs_2 askAt_2 askSet_2 askPs_3 askAt_3 askSet_3 askPs_4 askAt_4 askSet_4 sizes_ask shapes_ask fits_ask zero_ask zt_ask built_ask Try.underlying44 let_Ps_0 let_At_0 let_Set_0 let_Ps_1 let_At_1 let_Set_1 sizes_let_ shapes_let_ fits_let_ zero_let_ zt_let_ built_let_ Try.underlying74 netPs_0 netAt_0 netSet_0 netPs_1 netAt_1 netSet_1 sizes_net shapes_net fits_net zero_net zt_net built_net Try.underlying71 rletPs_0 rletAt_0 rletSet_0 rletPs_1 rletAt_1 rletSet_1 sizes_rlet shapes_rlet fits_rlet zero_rlet zt_rlet built_rlet Try.underlying60 rnetPs_0 rnetAt_0 rnetSet_0 rnetPs_1 rnetAt_1 rnetSet_1 sizes_rnet shapes_rnet fits_rnet zero_rnet zt_rnet built_rnet Try.underlying56 Try.underlying69 Try.underlying54 Try.underlying23 Try.underlying53
attribute [local go_sem] fits69 fits54'
def toR (x : Let) : RLet := ⟨x.to, x.b⟩
/-- Both nets in memory, and what else is known of memory. -/
structure Two (σ0 s : AST) (j k : Nat) (c : Int) (l : List Let) (cr : Int) (lr : List RLet) (F : List (Nat × AObj)) : Prop where
  x : Ext σ0 s
  jn : σ0.objs.length ≤ j
  kn : σ0.objs.length ≤ k
  jk : j ≠ k
  oj : ∃ tk, s.objs[j]? = some (.cells (netV tk ⟨c, l⟩))
  ok : ∃ tk, s.objs[k]? = some (.cells (rnetV tk ⟨cr, lr⟩))
  f : ∀ x ∈ F, x.1 ≠ j ∧ x.1 ≠ k ∧ s.objs[x.1]? = some x.2
section
variable {σ0 s s2 : AST} {j k : Nat} {c cr : Int} {l : List Let} {lr : List RLet} {F : List (Nat × AObj)} {K : AV → AST → Prop}
theorem Two.ext (h : Two σ0 s j k c l cr lr F) (e : Ext s s2) : Two σ0 s2 j k c l cr lr F := by
  obtain ⟨t, oj⟩ := h.oj
  obtain ⟨u, ok⟩ := h.ok
  exact ⟨h.x.trans e, h.jn, h.kn, h.jk, ⟨t, ext_known e oj⟩, ⟨u, ext_known e ok⟩, fun x hx => ⟨(h.f x hx).1, (h.f x hx).2.1, ext_known e (h.f x hx).2.2⟩⟩
theorem Two.more (h : Two σ0 s j k c l cr lr F) {i : Nat} {o : AObj} (ho : s.objs[i]? = some o) (hj : i ≠ j) (hk : i ≠ k) : Two σ0 s j k c l cr lr ((i, o) :: F) :=
  ⟨h.x, h.jn, h.kn, h.jk, h.oj, h.ok, fun x hx => by
    rcases List.mem_cons.1 hx with rfl | hx
    · exact ⟨hj, hk, ho⟩
    · exact h.f x hx⟩
theorem Two.less {y : Nat × AObj} (h : Two σ0 s j k c l cr lr (y :: F)) : Two σ0 s j k c l cr lr F :=
  ⟨h.x, h.jn, h.kn, h.jk, h.oj, h.ok, fun x hx => h.f x (List.mem_cons_of_mem _ hx)⟩
theorem Two.box (h : Two σ0 s j k c l cr lr F) (o : AObj) : Two σ0 (s.app [o]) j k c l cr lr ((s.objs.length, o) :: F) := by
  obtain ⟨t, oj⟩ := h.oj
  obtain ⟨u, ok⟩ := h.ok
  have h1 := (List.getElem?_eq_some_iff.1 oj).1
  have h2 := (List.getElem?_eq_some_iff.1 ok).1
  exact (h.ext (Ext.app _ _)).more objs_app0 (by omega) (by omega)
theorem Two.nf (h : Two σ0 s j k c l cr lr F) : ∃ tk, NF σ0 s j c l ((k, .cells (rnetV tk ⟨cr, lr⟩)) :: F) := by
  obtain ⟨u, ok⟩ := h.ok
  exact ⟨u, h.x, h.jn, h.oj, fun x hx => by
    rcases List.mem_cons.1 hx with rfl | hx
    · exact ⟨h.jk.symm, ok⟩
    · exact ⟨(h.f x hx).1, (h.f x hx).2.2⟩⟩
theorem Two.of_nf {tk : Tk} {c' : Int} {l' : List Let} (h0 : Two σ0 s j k c l cr lr F) (h : NF σ0 s2 j c' l' ((k, .cells (rnetV tk ⟨cr, lr⟩)) :: F)) : Two σ0 s2 j k c' l' cr lr F :=
  ⟨h.x, h0.jn, h0.kn, h0.jk, h.o, ⟨tk, (h.f _ (List.mem_cons_self ..)).2⟩, fun x hx => ⟨(h0.f x hx).1, (h0.f x hx).2.1, (h.f x (List.mem_cons_of_mem _ hx)).2⟩⟩
theorem Two.rn (h : Two σ0 s j k c l cr lr F) : ∃ tk, RN σ0 s k cr lr ((j, .cells (netV tk ⟨c, l⟩)) :: F) := by
  obtain ⟨u, oj⟩ := h.oj
  exact ⟨u, h.x, h.kn, h.ok, fun x hx => by
    rcases List.mem_cons.1 hx with rfl | hx
    · exact ⟨h.jk, oj⟩
    · exact (h.f x hx).2⟩
theorem Two.of_rn {tk : Tk} {c' : Int} {l' : List RLet} (h0 : Two σ0 s j k c l cr lr F) (h : RN σ0 s2 k c' l' ((j, .cells (netV tk ⟨c, l⟩)) :: F)) : Two σ0 s2 j k c l c' l' F :=
  ⟨h.x, h0.jn, h0.kn, h0.jk, ⟨tk, (h.f _ (List.mem_cons_self ..)).2⟩, h.o, fun x hx => ⟨(h0.f x hx).1, (h0.f x hx).2.1, (h.f x (List.mem_cons_of_mem _ hx)).2⟩⟩
variable (hT : Two σ0 s j k c l cr lr F)
include hT
theorem tlen_c (hK : l.length ≤ maxL → K (.int .i64 l.length) s) : TCalls Try.prog 17 [.ptr (some (j, []))] s K := by
  obtain ⟨t, hN⟩ := hT.nf
  exact len_c hN hK
theorem tsend_c {to : Int} {m : Msg} {t u : Tk} (hK : ∀ s', Two σ0 s' j k c (sendL c l to m) cr lr F → K (.int .i64 (sendE c l to m)) s') : TCalls Try.prog 12 [.ptr (some (j, [])), .agg [.int .i64 to, msgV t u m]] s K := by
  obtain ⟨t, hN⟩ := hT.nf
  exact send_c hN fun s' h => hK s' (hT.of_nf h)
theorem tforge_c {to : Int} {b : List UInt8} (hK : ∀ s', Two σ0 s' j k c (forgeL c l to b) cr lr F → K (.int .i64 (forgeE c l to b)) s') : TCalls Try.prog 11 [.ptr (some (j, [])), .int .i64 to, .str b] s K := by
  obtain ⟨t, hN⟩ := hT.nf
  exact forge_c hN fun s' h => hK s' (hT.of_nf h)
theorem topen_bad {i : Int} (hi : i < 0 ∨ (l.length : Int) ≤ i) (hK : K (.tuple [.int .i64 0, .str [], .int .i64 3]) s) : TCalls Try.prog 23 [.ptr (some (j, [])), .int .i64 i] s K := by
  obtain ⟨t, hN⟩ := hT.nf
  exact open_bad hN hi hK
theorem topen_c {i : Nat} {x : Let} (hx : l[i]? = some x) (hl : l.length ≤ 1000) (hK : ∀ s', Two σ0 s' j k c (l.take i ++ l.drop (i + 1)) cr lr F → K (.tuple [.int .i64 x.to, .str x.b, .int .i64 0]) s') :
    TCalls Try.prog 23 [.ptr (some (j, [])), .int .i64 i] s K := by
  obtain ⟨t, hN⟩ := hT.nf
  exact open_c hN hx hl fun s' h => hK s' (hT.of_nf h)
theorem tlose_bad {i : Int} (hi : i < 0 ∨ (l.length : Int) ≤ i) (hK : K (.int .i64 3) s) : TCalls Try.prog 21 [.ptr (some (j, [])), .int .i64 i] s K := by
  obtain ⟨t, hN⟩ := hT.nf
  exact lose_bad hN hi hK
theorem tlose_c {i : Nat} {x : Let} (hx : l[i]? = some x) (hl : l.length ≤ 1000) (hK : ∀ s', Two σ0 s' j k c (l.take i ++ l.drop (i + 1)) cr lr F → K (.int .i64 0) s') :
    TCalls Try.prog 21 [.ptr (some (j, [])), .int .i64 i] s K := by
  obtain ⟨t, hN⟩ := hT.nf
  exact lose_c hN hx hl fun s' h => hK s' (hT.of_nf h)
theorem tcopy_bad {i : Int} (hi : i < 0 ∨ (l.length : Int) ≤ i) (hK : K (.int .i64 3) s) : TCalls Try.prog 20 [.ptr (some (j, [])), .int .i64 i] s K := by
  obtain ⟨t, hN⟩ := hT.nf
  exact copy_bad hN hi hK
theorem tcopy_c {i : Nat} {x : Let} (hx : l[i]? = some x) (hK : ∀ s', Two σ0 s' j k c (addL l x) cr lr F → K (.int .i64 (addE l)) s') :
    TCalls Try.prog 20 [.ptr (some (j, [])), .int .i64 i] s K := by
  obtain ⟨t, hN⟩ := hT.nf
  exact copy_c hN hx fun s' h => hK s' (hT.of_nf h)
theorem tfirst_c {to : Int} (hl : l.length ≤ 1000)
    (h1 : ∀ s' (i : Nat) x, (∀ (j : Nat) y, j < i → l[j]? = some y → y.to ≠ to) → l[i]? = some x → x.to = to → Two σ0 s' j k c (l.take i ++ l.drop (i + 1)) cr lr F → K (.tuple [.str x.b, .bool true]) s')
    (h2 : (∀ y ∈ l, y.to ≠ to) → ∀ s', Two σ0 s' j k c l cr lr F → K (.tuple [.str [], .bool false]) s') : TCalls Try.prog 14 [.ptr (some (j, [])), .int .i64 to] s K := by
  obtain ⟨t, hN⟩ := hT.nf
  exact first_c hN hl (fun s' i x a b e h => h1 s' i x a b e (hT.of_nf h)) fun a s' h => h2 a s' (hT.of_nf h)
theorem twaiting_c {to : Int} (hl : l.length ≤ 1000) (hK : K (.int .i64 (waits to l)) s) : TCalls Try.prog 15 [.ptr (some (j, [])), .int .i64 to] s K := by
  obtain ⟨t, hN⟩ := hT.nf
  exact waiting_c hN hl hK
theorem ttake_c {i : Nat} {x : RLet} (hx : lr[i]? = some x) (hl : lr.length ≤ 1000) (hK : ∀ s', Two σ0 s' j k c l cr (lr.take i ++ lr.drop (i + 1)) F → K (rletV x) s') :
    TCalls Try.prog 22 [.ptr (some (k, [])), .int .i64 i] s K := by
  obtain ⟨t, hN⟩ := hT.rn
  exact take_c hN hx hl fun s' h => hK s' (hT.of_rn h)
omit hT
end
noncomputable def rsendL (c : Int) (l : List RLet) (to : Int) (m : Msg) : List RLet := if sendBad c to m then l else raddL l ⟨to, m.bytes⟩
noncomputable def rsendE (c : Int) (l : List RLet) (to : Int) (m : Msg) : Int := if sendBad c to m then 2 else if 128 ≤ l.length then 11 else 0
noncomputable def rforgeL (c : Int) (l : List RLet) (to : Int) (b : List UInt8) : List RLet := if forgeBad c to b then l else raddL l ⟨to, b⟩
noncomputable def rforgeE (c : Int) (l : List RLet) (to : Int) (b : List UInt8) : Int := if forgeBad c to b then 2 else if 128 ≤ l.length then 11 else 0
theorem rforge_c {σ0 s : AST} {j : Nat} {c to : Int} {b : List UInt8} {l : List RLet} {F : List (Nat × AObj)} {K : AV → AST → Prop} (hN : RN σ0 s j c l F)
    (hK : ∀ s', RN σ0 s' j c (rforgeL c l to b) F → K (.int .i64 (rforgeE c l to b)) s') : TCalls Try.prog 19 [.ptr (some (j, [])), .int .i64 to, .str b] s K := by
  obtain ⟨tk, o⟩ := hN.o
  have c0 := cellAt_known o
  refine tcalls_walk Try.f19 _ [.tmp 6] Try.func19 rfl rfl rfl mixed (Nat.le_of_ble_eq_true rfl) rfl fun hlen => ?_
  by_cases hb : forgeBad c to b
  · simp only [rforgeL, rforgeE, if_pos hb] at hK
    unfold forgeBad at hb
    repeat' (first | (simp -dsimp only [↓reduceIte, go_sem, c0]) | (refine arr_intro fun _ => ?_) | (refine later_intro ⟨keeps_nil, ?_⟩) | (refine later_intro ⟨keeps_refl, ?_⟩) | (with_reducible refine keeps_go ?_ ?_; focus (first | (simp [keeps_cons, keeps_none, objs_app, objs_app0]; done) | (simp only [keeps_cons, keeps_none, objs_app0, objs_app, and_true]; first | rfl | exact ⟨rfl, rfl⟩ | exact ⟨rfl, rfl, rfl⟩))) | (with_reducible refine (And.intro (a := keeps _ _ _) ?_ ?_); focus (first | (simp [keeps_cons, keeps_none, objs_app, objs_app0]; done) | (simp only [keeps_cons, keeps_none, objs_app0, objs_app, and_true]; first | rfl | exact ⟨rfl, rfl⟩ | exact ⟨rfl, rfl, rfl⟩))) | (refine both_ways ?_ ?_) | (rw [wrap_i64 (by omega) (by omega)]) | (refine guardV_split (fun h => ?_) (fun h => ?_) <;> (try rw [h]) <;> (try simp at h) <;> (try (exfalso; omega))))
    all_goals first
      | (exfalso; omega)
      | exact hK _ hN
  · simp only [rforgeL, rforgeE, if_neg hb] at hK
    unfold forgeBad at hb
    have b1 : ¬ to < 0 := by omega
    have b2 : ¬ c ≤ to := by omega
    have b3 : ¬ 16384 < (b.length : Int) := by omega
    repeat' (first | (simp -dsimp only [↓reduceIte, go_sem, c0, b1, b2, b3]) | (refine arr_intro fun _ => ?_) | (refine later_intro ⟨keeps_nil, ?_⟩) | (refine later_intro ⟨keeps_refl, ?_⟩) | (with_reducible refine keeps_go ?_ ?_; focus (first | (simp [keeps_cons, keeps_none, objs_app, objs_app0]; done) | (simp only [keeps_cons, keeps_none, objs_app0, objs_app, and_true]; first | rfl | exact ⟨rfl, rfl⟩ | exact ⟨rfl, rfl, rfl⟩))) | (with_reducible refine (And.intro (a := keeps _ _ _) ?_ ?_); focus (first | (simp [keeps_cons, keeps_none, objs_app, objs_app0]; done) | (simp only [keeps_cons, keeps_none, objs_app0, objs_app, and_true]; first | rfl | exact ⟨rfl, rfl⟩ | exact ⟨rfl, rfl, rfl⟩))) | (refine both_ways ?_ ?_) | (rw [wrap_i64 (by omega) (by omega)]) | (refine guardV_split (fun h => ?_) (fun h => ?_) <;> (try rw [h]) <;> (try simp at h) <;> (try (exfalso; omega))))
    refine raddr_c (x := ⟨to, b⟩) hN fun s' hN' => ?_
    repeat' (first | (simp -dsimp only [↓reduceIte, go_sem]) | (refine arr_intro fun _ => ?_) | (refine later_intro ⟨keeps_nil, ?_⟩) | (refine later_intro ⟨keeps_refl, ?_⟩) | (with_reducible refine keeps_go ?_ ?_; focus (first | (simp [keeps_cons, keeps_none, objs_app, objs_app0]; done) | (simp only [keeps_cons, keeps_none, objs_app0, objs_app, and_true]; first | rfl | exact ⟨rfl, rfl⟩ | exact ⟨rfl, rfl, rfl⟩))) | (with_reducible refine (And.intro (a := keeps _ _ _) ?_ ?_); focus (first | (simp [keeps_cons, keeps_none, objs_app, objs_app0]; done) | (simp only [keeps_cons, keeps_none, objs_app0, objs_app, and_true]; first | rfl | exact ⟨rfl, rfl⟩ | exact ⟨rfl, rfl, rfl⟩))) | (refine both_ways ?_ ?_) | (rw [wrap_i64 (by omega) (by omega)]) | (refine guardV_split (fun h => ?_) (fun h => ?_) <;> (try rw [h]) <;> (try simp at h) <;> (try (exfalso; omega))))
    exact hK _ hN'
theorem rsend_c {σ0 s : AST} {j : Nat} {c to : Int} {m : Msg} {t u : Tk} {l : List RLet} {F : List (Nat × AObj)} {K : AV → AST → Prop} (hN : RN σ0 s j c l F) (hw : Rng m.by_)
    (hK : ∀ s', RN σ0 s' j c (rsendL c l to m) F → K (.int .i64 (rsendE c l to m)) s') : TCalls Try.prog 18 [.ptr (some (j, [])), .agg [.int .i64 to, msgV t u m]] s K := by
  have hN1 : RN σ0 (s.app [.cells (.agg [.int .i64 to, msgV t u m])]) j c l F := hN.ext (Ext.app _ _)
  obtain ⟨tk, o⟩ := hN1.o
  have c0 := cellAt_known o
  have e : (AV.agg [.int .i64 to, msgV t u m]) = sndV t u ⟨to, m⟩ := rfl
  rw [e] at c0 hN1 o ⊢
  refine tcalls_walk Try.f18 _ [.tmp 4] Try.func18 rfl rfl rfl mixed (Nat.le_of_ble_eq_true rfl) rfl fun hlen => ?_
  by_cases hb : to < 0 ∨ c ≤ to
  · have hbad : sendBad c to m := .inr hb
    simp only [rsendL, rsendE, if_pos hbad] at hK
    repeat' (first | (simp -dsimp only [↓reduceIte, go_sem, c0]) | (refine arr_intro fun _ => ?_) | (refine later_intro ⟨keeps_nil, ?_⟩) | (refine later_intro ⟨keeps_refl, ?_⟩) | (with_reducible refine keeps_go ?_ ?_; focus (first | (simp [keeps_cons, keeps_none, objs_app, objs_app0]; done) | (simp only [keeps_cons, keeps_none, objs_app0, objs_app, and_true]; first | rfl | exact ⟨rfl, rfl⟩ | exact ⟨rfl, rfl, rfl⟩))) | (with_reducible refine (And.intro (a := keeps _ _ _) ?_ ?_); focus (first | (simp [keeps_cons, keeps_none, objs_app, objs_app0]; done) | (simp only [keeps_cons, keeps_none, objs_app0, objs_app, and_true]; first | rfl | exact ⟨rfl, rfl⟩ | exact ⟨rfl, rfl, rfl⟩))) | (refine both_ways ?_ ?_) | (rw [wrap_i64 (by omega) (by omega)]) | (refine guardV_split (fun h => ?_) (fun h => ?_) <;> (try rw [h]) <;> (try simp at h) <;> (try (exfalso; omega))) | (with_reducible refine awp_drawS (id := 1) [0, 1, 2, 3, 4, 5, 6, 7, 8, 9, 10, 11, 12, 13, 14, 15, 16, 17] (by kernel_rfl) ?_))
    all_goals first
      | (exfalso; omega)
      | exact hK _ hN1
  · have b1 : ¬ to < 0 := by omega
    have b2 : ¬ c ≤ to := by omega
    by_cases hok : m.Ok
    · have hbad : ¬ sendBad c to m := by rintro (h | h); exact h hok; exact hb h
      simp only [rsendL, rsendE, if_neg hbad] at hK
      repeat' (first | (simp -dsimp only [↓reduceIte, go_sem, c0, b1, b2, hok]) | (refine arr_intro fun _ => ?_) | (refine later_intro ⟨keeps_nil, ?_⟩) | (refine later_intro ⟨keeps_refl, ?_⟩) | (with_reducible refine keeps_go ?_ ?_; focus (first | (simp [keeps_cons, keeps_none, objs_app, objs_app0]; done) | (simp only [keeps_cons, keeps_none, objs_app0, objs_app, and_true]; first | rfl | exact ⟨rfl, rfl⟩ | exact ⟨rfl, rfl, rfl⟩))) | (with_reducible refine (And.intro (a := keeps _ _ _) ?_ ?_); focus (first | (simp [keeps_cons, keeps_none, objs_app, objs_app0]; done) | (simp only [keeps_cons, keeps_none, objs_app0, objs_app, and_true]; first | rfl | exact ⟨rfl, rfl⟩ | exact ⟨rfl, rfl, rfl⟩))) | (refine both_ways ?_ ?_) | (rw [wrap_i64 (by omega) (by omega)]) | (refine guardV_split (fun h => ?_) (fun h => ?_) <;> (try rw [h]) <;> (try simp at h) <;> (try (exfalso; omega))) | (with_reducible refine awp_drawS (id := 1) [0, 1, 2, 3, 4, 5, 6, 7, 8, 9, 10, 11, 12, 13, 14, 15, 16, 17] (by kernel_rfl) ?_) | (refine refRight_c hw ?_) | (with_reducible refine awp_drawT (id := 3) (.op 0 2 (.op 1 2 (.op 2 2 (.op 3 2 (.op 4 2 (.op 5 3 (.op 6 2 (.op 7 1 (.op 8 2 .nil))))))))) (by kernel_rfl) ?_) | (refine lay_c hok ?_))
      refine raddr_c (x := ⟨to, m.bytes⟩) hN1 fun s' hN' => ?_
      repeat' (first | (simp -dsimp only [↓reduceIte, go_sem]) | (refine arr_intro fun _ => ?_) | (refine later_intro ⟨keeps_nil, ?_⟩) | (refine later_intro ⟨keeps_refl, ?_⟩) | (with_reducible refine keeps_go ?_ ?_; focus (first | (simp [keeps_cons, keeps_none, objs_app, objs_app0]; done) | (simp only [keeps_cons, keeps_none, objs_app0, objs_app, and_true]; first | rfl | exact ⟨rfl, rfl⟩ | exact ⟨rfl, rfl, rfl⟩))) | (with_reducible refine (And.intro (a := keeps _ _ _) ?_ ?_); focus (first | (simp [keeps_cons, keeps_none, objs_app, objs_app0]; done) | (simp only [keeps_cons, keeps_none, objs_app0, objs_app, and_true]; first | rfl | exact ⟨rfl, rfl⟩ | exact ⟨rfl, rfl, rfl⟩))) | (refine both_ways ?_ ?_) | (rw [wrap_i64 (by omega) (by omega)]) | (refine guardV_split (fun h => ?_) (fun h => ?_) <;> (try rw [h]) <;> (try simp at h) <;> (try (exfalso; omega))))
      exact hK _ hN'
    · have hbad : sendBad c to m := .inl hok
      simp only [rsendL, rsendE, if_pos hbad] at hK
      repeat' (first | (simp -dsimp only [↓reduceIte, go_sem, c0, b1, b2, hok]) | (refine arr_intro fun _ => ?_) | (refine later_intro ⟨keeps_nil, ?_⟩) | (refine later_intro ⟨keeps_refl, ?_⟩) | (with_reducible refine keeps_go ?_ ?_; focus (first | (simp [keeps_cons, keeps_none, objs_app, objs_app0]; done) | (simp only [keeps_cons, keeps_none, objs_app0, objs_app, and_true]; first | rfl | exact ⟨rfl, rfl⟩ | exact ⟨rfl, rfl, rfl⟩))) | (with_reducible refine (And.intro (a := keeps _ _ _) ?_ ?_); focus (first | (simp [keeps_cons, keeps_none, objs_app, objs_app0]; done) | (simp only [keeps_cons, keeps_none, objs_app0, objs_app, and_true]; first | rfl | exact ⟨rfl, rfl⟩ | exact ⟨rfl, rfl, rfl⟩))) | (refine both_ways ?_ ?_) | (rw [wrap_i64 (by omega) (by omega)]) | (refine guardV_split (fun h => ?_) (fun h => ?_) <;> (try rw [h]) <;> (try simp at h) <;> (try (exfalso; omega))) | (with_reducible refine awp_drawS (id := 1) [0, 1, 2, 3, 4, 5, 6, 7, 8, 9, 10, 11, 12, 13, 14, 15, 16, 17] (by kernel_rfl) ?_) | (refine refRight_c hw ?_))
      exact hK _ hN1
section
variable {σ0 s s2 : AST} {j k : Nat} {c cr : Int} {l : List Let} {lr : List RLet} {F : List (Nat × AObj)} {K : AV → AST → Prop}
variable (hT : Two σ0 s j k c l cr lr F)
include hT
theorem trsend_c {to : Int} {m : Msg} {t u : Tk} (hw : Rng m.by_) (hK : ∀ s', Two σ0 s' j k c l cr (rsendL cr lr to m) F → K (.int .i64 (rsendE cr lr to m)) s') : TCalls Try.prog 18 [.ptr (some (k, [])), .agg [.int .i64 to, msgV t u m]] s K := by
  obtain ⟨t, hN⟩ := hT.rn
  exact rsend_c hN hw fun s' h => hK s' (hT.of_rn h)
theorem trforge_c {to : Int} {b : List UInt8} (hK : ∀ s', Two σ0 s' j k c l cr (rforgeL cr lr to b) F → K (.int .i64 (rforgeE cr lr to b)) s') : TCalls Try.prog 19 [.ptr (some (k, [])), .int .i64 to, .str b] s K := by
  obtain ⟨t, hN⟩ := hT.rn
  exact rforge_c hN fun s' h => hK s' (hT.of_rn h)
omit hT
end
theorem raddL_map (l : List Let) (x : Let) : raddL (l.map toR) (toR x) = (addL l x).map toR := by unfold raddL addL; simp; split <;> simp
theorem rsendL_map (c : Int) (l : List Let) (to : Int) (m : Msg) : rsendL c (l.map toR) to m = (sendL c l to m).map toR := by
  unfold rsendL sendL; split
  · rfl
  · exact raddL_map l ⟨to, m.bytes⟩
theorem rsendE_map (c : Int) (l : List Let) (to : Int) (m : Msg) : rsendE c (l.map toR) to m = sendE c l to m := by
  unfold rsendE sendE addE; simp
theorem rforgeL_map (c : Int) (l : List Let) (to : Int) (b : List UInt8) : rforgeL c (l.map toR) to b = (forgeL c l to b).map toR := by
  unfold rforgeL forgeL; split
  · rfl
  · exact raddL_map l ⟨to, b⟩
theorem rforgeE_map (c : Int) (l : List Let) (to : Int) (b : List UInt8) : rforgeE c (l.map toR) to b = forgeE c l to b := by
  unfold rforgeE forgeE addE; simp
theorem addL_len {l : List Let} {x : Let} (h : l.length ≤ 128) : (addL l x).length ≤ 128 := by
  unfold addL; split
  · exact h
  · simp; omega
theorem sendL_len {c : Int} {l : List Let} {to : Int} {m : Msg} (h : l.length ≤ 128) : (sendL c l to m).length ≤ 128 := by unfold sendL; split; exact h; exact addL_len h
theorem forgeL_len {c : Int} {l : List Let} {to : Int} {b : List UInt8} (h : l.length ≤ 128) : (forgeL c l to b).length ≤ 128 := by unfold forgeL; split; exact h; exact addL_len h
theorem out_len {l : List Let} {i : Nat} (h : l.length ≤ 128) : (l.take i ++ l.drop (i + 1)).length ≤ 128 := by simp; omega
theorem out_map {l : List Let} {i : Nat} : (l.map toR).take i ++ (l.map toR).drop (i + 1) = (l.take i ++ l.drop (i + 1)).map toR := by simp [List.map_take, List.map_drop]
theorem Two.setR {σ0 s : AST} {j k : Nat} {c cr : Int} {l : List Let} {lr lr' : List RLet} {F : List (Nat × AObj)} (h : Two σ0 s j k c l cr lr F) {a : List AObj} {m n : Nat} {tk : Tk} :
    Two σ0 ((growS (growS (s.app a) .full m 2) (growT (s.app a) .full) n 2).set k (.cells (rnetV tk ⟨cr, lr'⟩))) j k c l cr lr' F := by
  have hA := h.ext (Ext.app s a)
  obtain ⟨t, oj⟩ := hA.oj
  obtain ⟨u, ok⟩ := hA.ok
  refine ⟨((hA.x.grow (.inl rfl)).grow ?_).set h.kn, h.jn, h.kn, h.jk, ⟨t, ?_⟩, ⟨tk, objs_setS ?_⟩, fun y hy => ⟨(h.f y hy).1, (h.f y hy).2.1, ?_⟩⟩
  · exact (show tkNew σ0 .full from .inl rfl).grow hA.x
  · rw [objs_setN h.jk.symm, growS_objs, growS_objs]; exact oj
  · simp only [growS_objs]; exact (List.getElem?_eq_some_iff.1 ok).1
  · rw [objs_setN (h.f y hy).2.1.symm, growS_objs, growS_objs]; exact (hA.f y hy).2.2
end Go.Aff.L10

