import Derived.Test.YtnpbneiaflgpdaaG36
import Derived.Test.YtnpbneiaflgpdaaG32
import Derived.Test.YtnpbneiaflgpdaaG16

set_option linter.unusedSimpArgs false
set_option linter.unusedVariables false

/- Layer 10, walked: MsgGets. -/
-- cuts
namespace Go.Aff.L10
open Go.Proofs Go.Aff Go.Aff.L01 Classical
set_option linter.unusedVariables false
set_option linter.unusedSimpArgs false
set_option maxRecDepth 20000
attribute [local go_sem] push_app app_app length_app cellAt_app cellAt_app0 set_app set_app0 objs_app objs_app0 List.cons_append List.nil_append List.length_cons List.length_nil List.getElem?_cons_zero List.getElem?_cons_succ List.set_cons_zero List.set_cons_succ List.length_map
attribute [-go_sem] cellAt_new
attribute [-simp] List.length_flatMap
attribute [local go_sem] Try.underlying3 Try.underlying4 Try.underlying5 Try.underlying9 Try.underlying22 Try.underlying23 Try.underlying26 Try.underlying31 Try.underlying34 Try.underlying52 subPs_0 subAt_0 subSet_0 subPs_1 subAt_1 subSet_1 subPs_2 subAt_2 subSet_2 subPs_3 subAt_3 subSet_3 subPs_4 subAt_4 subSet_4 subPs_5 subAt_5 subSet_5 sizes_sub shapes_sub fits_sub zero_sub zt_sub built_sub Try.underlying25 pendPs_0 pendAt_0 pendSet_0 pendPs_1 pendAt_1 pendSet_1 pendPs_2 pendAt_2 pendSet_2 pendPs_3 pendAt_3 pendSet_3 pendPs_4 pendAt_4 pendSet_4 pendPs_5 pendAt_5 pendSet_5 sizes_pend shapes_pend fits_pend zero_pend zt_pend built_pend Try.underlying98 repPs_0 repAt_0 repSet_0 repPs_1 repAt_1 repSet_1 repPs_2 repAt_2 repSet_2 repPs_3 repAt_3 repSet_3 repPs_4 repAt_4 repSet_4 repPs_5 repAt_5 repSet_5 repPs_6 repAt_6 repSet_6 repPs_7 repAt_7 repSet_7 repPs_8 repAt_8 repSet_8 repPs_9 repAt_9 repSet_9 sizes_rep shapes_rep fits_rep zero_rep zt_rep built_rep Try.underlying28 blobPs_0 blobAt_0 blobSet_0 blobPs_1 blobAt_1 blobSet_1 blobPs_2 blobAt_2 blobSet_2 blobPs_3 blobAt_3 blobSet_3 sizes_blob shapes_blob fits_blob zero_blob zt_blob built_blob Try.underlying30 msgPs_0 msgAt_0 msgSet_0 msgPs_1 msgAt_1 msgSet_1 msgPs_2 msgAt_2 msgSet_2 msgPs_3 msgAt_3 msgSet_3 msgPs_4 msgAt_4 msgSet_4 msgPs_5 msgAt_5 msgSet_5 msgPs_6 msgAt_6 msgSet_6 msgPs_7 msgAt_7 msgSet_7 msgPs_8 msgAt_8 msgSet_8 msgPs_9 msgAt_9 msgSet_9 sizes_msg shapes_msg fits_msg zero_msg zt_msg built_msg Try.underlying33 at_Ps_0 at_At_0 at_Set_0 at_Ps_1 at_At_1 at_Set_1 sizes_at_ shapes_at_ fits_at_ zero_at_ zt_at_ built_at_ Try.underlying77
attribute [local go_sem] fits3 fits4 fits5 fits9 fits23 fits26 fits31 fits34 fits52 zt3 zero3 zt34 zero34 zt23 zero23 bin_sub_eql bin_pend_eql bin_pend_neq bin_blob_eql bin_dig23_eql bin_dig23_neq slice23
attribute [local go_sem ↓] blockQ_exit2
attribute [local simp] dig_ext
attribute [local go_sem] rdrPs_0 rdrAt_0 rdrSet_0 rdrPs_1 rdrAt_1 rdrSet_1 rdrPs_2 rdrAt_2 rdrSet_2 sizes_rdr shapes_rdr fits_rdr zero_rdr zt_rdr built_rdr Try.underlying72 Try.underlying70 Try.underlying75 bin_bool_ne appc appn built23
attribute [local go_sem] msgSet_9s slV_eq
attribute [local go_sem ↓] res_cc
theorem msgGets_c {l : List UInt8} {σ : AST} {K : AV → AST → Prop} (hK : K (.bool true) σ) : TCalls Try.prog 4 [.str l] σ K := by
  refine TCalls.drop ?_
  refine tcalls_walk Try.f4 _ [.tmp 2] Try.func4 rfl rfl rfl mixed (Nat.le_of_ble_eq_true rfl) rfl fun hlen => ?_
  repeat' (first | (simp -dsimp only [↓reduceIte, go_sem]) | (refine arr_intro fun _ => ?_) | (refine later_intro ⟨keeps_nil, ?_⟩) | (refine later_intro ⟨keeps_refl, ?_⟩) | (with_reducible refine keeps_go ?_ ?_; focus (first | (simp [keeps_cons, keeps_none, objs_app, objs_app0]; done) | (simp only [keeps_cons, keeps_none, objs_app0, objs_app, and_true]; first | rfl | exact ⟨rfl, rfl⟩ | exact ⟨rfl, rfl, rfl⟩))) | (with_reducible refine (And.intro (a := keeps _ _ _) ?_ ?_); focus (first | (simp [keeps_cons, keeps_none, objs_app, objs_app0]; done) | (simp only [keeps_cons, keeps_none, objs_app0, objs_app, and_true]; first | rfl | exact ⟨rfl, rfl⟩ | exact ⟨rfl, rfl, rfl⟩))) | (refine both_ways ?_ ?_) | (rw [wrap_i64 (by omega) (by omega)]) | (refine guardV_split (fun h => ?_) (fun h => ?_) <;> (try rw [h]) <;> (try simp at h) <;> (try (exfalso; omega))) | (refine awake_c ?_) | (refine get_c fun t u => ?_) | (refine refGet_c fun t2 u2 => ?_) | (refine refSame_c ?_))
  all_goals first | exact ⟨Ext.app _ _, rfl, by simpa [AV.strip] using hK⟩ | exact ⟨Ext.refl _, rfl, by simpa [AV.strip] using hK⟩ | trace_state
end Go.Aff.L10

/- Layer 10: what an argument's shape says of a message. -/
namespace Go.Aff.L10
open Go.Proofs Go.Aff Go.Aff.L01 Classical
set_option linter.unusedVariables false
set_option maxRecDepth 20000

theorem sh_ints {n : Nat} {v : AV} (h : ShT Try.prog (n + 2) 31 v) : ∃ (tk : Tk) (l : List Int), v = .slice tk (l.map (AV.int .i64)) := by
  obtain ⟨tk, xs, rfl, e⟩ := sh_slice (n := n + 1) (t := 31) Try.underlying31 h
  obtain ⟨l, rfl, _⟩ := map_of (f := AV.int .i64) (p := fun _ => True) (fun x hx => by obtain ⟨i, rfl, _, _⟩ := sh_int (n := n) (t := 3) Try.underlying3 (e x hx); exact ⟨i, rfl, trivial⟩)
  exact ⟨tk, l, rfl⟩
theorem sh_pend {n : Nat} {v : AV} (h : ShT Try.prog (n + 9) 98 v) : ∃ y : Pend, v = pendV y ∧ True := by
  obtain ⟨ps, rfl, hps⟩ := sh_struct (n := n + 8) Try.underlying98 h
  obtain ⟨p0, r, rfl, h0, hps⟩ := shTs_cons (n := n + 7) hps
  obtain ⟨p1, r, rfl, h1, hps⟩ := shTs_cons (n := n + 6) hps
  obtain ⟨p2, r, rfl, h2, hps⟩ := shTs_cons (n := n + 5) hps
  obtain ⟨p3, r, rfl, h3, hps⟩ := shTs_cons (n := n + 4) hps
  obtain ⟨p4, r, rfl, h4, hps⟩ := shTs_cons (n := n + 3) hps
  obtain ⟨p5, r, rfl, h5, hps⟩ := shTs_cons (n := n + 2) hps
  obtain rfl := shTs_nil hps
  obtain ⟨a, rfl, _, _⟩ := sh_int (t := 3) Try.underlying3 h0
  obtain ⟨b, rfl, _, _⟩ := sh_int (t := 3) Try.underlying3 h1
  obtain ⟨c, rfl, _, _⟩ := sh_int (t := 3) Try.underlying3 h2
  obtain ⟨d, rfl, _, _⟩ := sh_int (t := 3) Try.underlying3 h3
  obtain ⟨e, rfl⟩ := sh_dig (t := 23) Try.underlying23 h4
  obtain ⟨f, rfl⟩ := sh_dig (t := 23) Try.underlying23 h5
  exact ⟨⟨a, b, c, d, e, f⟩, rfl, trivial⟩
theorem sh_sub {n : Nat} {v : AV} (h : ShT Try.prog (n + 9) 25 v) : ∃ y : Sub, v = subV y := by
  obtain ⟨ps, rfl, hps⟩ := sh_struct (n := n + 8) Try.underlying25 h
  obtain ⟨p0, r, rfl, h0, hps⟩ := shTs_cons (n := n + 7) hps
  obtain ⟨p1, r, rfl, h1, hps⟩ := shTs_cons (n := n + 6) hps
  obtain ⟨p2, r, rfl, h2, hps⟩ := shTs_cons (n := n + 5) hps
  obtain ⟨p3, r, rfl, h3, hps⟩ := shTs_cons (n := n + 4) hps
  obtain ⟨p4, r, rfl, h4, hps⟩ := shTs_cons (n := n + 3) hps
  obtain ⟨p5, r, rfl, h5, hps⟩ := shTs_cons (n := n + 2) hps
  obtain rfl := shTs_nil hps
  obtain ⟨a, rfl, _, _⟩ := sh_int (t := 3) Try.underlying3 h0
  obtain ⟨b, rfl, _, _⟩ := sh_int (t := 3) Try.underlying3 h1
  obtain ⟨c, rfl, _, _⟩ := sh_int (t := 3) Try.underlying3 h2
  obtain ⟨d, rfl⟩ := sh_str (t := 9) Try.underlying9 h3
  obtain ⟨e, rfl⟩ := sh_dig (t := 23) Try.underlying23 h4
  obtain ⟨f, rfl⟩ := sh_dig (t := 23) Try.underlying23 h5
  exact ⟨⟨a, b, c, d, e, f⟩, rfl⟩
theorem sh_blob {n : Nat} {v : AV} (h : ShT Try.prog (n + 9) 30 v) : ∃ y : Blob, v = blobV y := by
  obtain ⟨ps, rfl, hps⟩ := sh_struct (n := n + 8) Try.underlying30 h
  obtain ⟨p0, r, rfl, h0, hps⟩ := shTs_cons (n := n + 7) hps
  obtain ⟨p1, r, rfl, h1, hps⟩ := shTs_cons (n := n + 6) hps
  obtain ⟨p2, r, rfl, h2, hps⟩ := shTs_cons (n := n + 5) hps
  obtain ⟨p3, r, rfl, h3, hps⟩ := shTs_cons (n := n + 4) hps
  obtain rfl := shTs_nil hps
  obtain ⟨a, rfl, _, _⟩ := sh_int (t := 3) Try.underlying3 h0
  obtain ⟨b, rfl, _, _⟩ := sh_int (t := 3) Try.underlying3 h1
  obtain ⟨c, rfl⟩ := sh_str (t := 9) Try.underlying9 h2
  obtain ⟨e, rfl⟩ := sh_dig (t := 23) Try.underlying23 h3
  exact ⟨⟨a, b, c, e⟩, rfl⟩
theorem sh_rep {n : Nat} {v : AV} (h : ShT Try.prog (n + 18) 28 v) : ∃ (t : Tk) (y : Rep), v = repV t y := by
  obtain ⟨ps, rfl, hps⟩ := sh_struct (n := n + 17) Try.underlying28 h
  obtain ⟨p0, r, rfl, h0, hps⟩ := shTs_cons (n := n + 16) hps
  obtain ⟨p1, r, rfl, h1, hps⟩ := shTs_cons (n := n + 15) hps
  obtain ⟨p2, r, rfl, h2, hps⟩ := shTs_cons (n := n + 14) hps
  obtain ⟨p3, r, rfl, h3, hps⟩ := shTs_cons (n := n + 13) hps
  obtain ⟨p4, r, rfl, h4, hps⟩ := shTs_cons (n := n + 12) hps
  obtain ⟨p5, r, rfl, h5, hps⟩ := shTs_cons (n := n + 11) hps
  obtain ⟨p6, r, rfl, h6, hps⟩ := shTs_cons (n := n + 10) hps
  obtain ⟨p7, r, rfl, h7, hps⟩ := shTs_cons (n := n + 9) hps
  obtain ⟨p8, r, rfl, h8, hps⟩ := shTs_cons (n := n + 8) hps
  obtain ⟨p9, r, rfl, h9, hps⟩ := shTs_cons (n := n + 7) hps
  obtain rfl := shTs_nil hps
  obtain ⟨a, rfl, _, _⟩ := sh_int (t := 3) Try.underlying3 h0
  obtain ⟨b, rfl, _, _⟩ := sh_int (t := 3) Try.underlying3 h1
  obtain ⟨c, rfl⟩ := sh_str (t := 9) Try.underlying9 h2
  obtain ⟨d, rfl⟩ := sh_dig (t := 23) Try.underlying23 h3
  obtain ⟨tk, xs, rfl, e⟩ := sh_slice (n := n + 11) (t := 26) Try.underlying26 h4
  obtain ⟨l, rfl, _⟩ := map_of (f := pendV) (p := fun _ => True) (fun x hx => sh_pend (n := n + 2) (e x hx))
  obtain ⟨f, rfl, _, _⟩ := sh_int (t := 3) Try.underlying3 h5
  obtain ⟨g, rfl⟩ := sh_str (t := 9) Try.underlying9 h6
  obtain ⟨k, rfl⟩ := sh_dig (t := 23) Try.underlying23 h7
  obtain ⟨i, rfl⟩ := sh_str (t := 9) Try.underlying9 h8
  obtain ⟨j, rfl⟩ := sh_dig (t := 23) Try.underlying23 h9
  exact ⟨tk, ⟨a, b, c, d, l, f, g, k, i, j⟩, rfl⟩
theorem sh_msg {v : AV} (h : ShT Try.prog 30 33 v) : ∃ (t u : Tk) (m : Msg), v = msgV t u m ∧ Rng m.by_ := by
  obtain ⟨ps, rfl, hps⟩ := sh_struct (n := 29) Try.underlying33 h
  obtain ⟨p0, r, rfl, h0, hps⟩ := shTs_cons (n := 28) hps
  obtain ⟨p1, r, rfl, h1, hps⟩ := shTs_cons (n := 27) hps
  obtain ⟨p2, r, rfl, h2, hps⟩ := shTs_cons (n := 26) hps
  obtain ⟨p3, r, rfl, h3, hps⟩ := shTs_cons (n := 25) hps
  obtain ⟨p4, r, rfl, h4, hps⟩ := shTs_cons (n := 24) hps
  obtain ⟨p5, r, rfl, h5, hps⟩ := shTs_cons (n := 23) hps
  obtain ⟨p6, r, rfl, h6, hps⟩ := shTs_cons (n := 22) hps
  obtain ⟨p7, r, rfl, h7, hps⟩ := shTs_cons (n := 21) hps
  obtain ⟨p8, r, rfl, h8, hps⟩ := shTs_cons (n := 20) hps
  obtain ⟨p9, r, rfl, h9, hps⟩ := shTs_cons (n := 19) hps
  obtain rfl := shTs_nil hps
  obtain ⟨a, rfl, _, _⟩ := sh_int (t := 3) Try.underlying3 h0
  obtain ⟨b, rfl, _, _⟩ := sh_int (t := 3) Try.underlying3 h1
  obtain ⟨c, rfl⟩ := sh_sub (n := 17) h2
  obtain ⟨t, d, rfl⟩ := sh_rep (n := 7) h3
  obtain ⟨e, rfl⟩ := sh_str (t := 9) Try.underlying9 h4
  obtain ⟨f, rfl, f1, f2⟩ := sh_int (t := 3) Try.underlying3 h5
  obtain ⟨g, rfl⟩ := sh_dig (t := 23) Try.underlying23 h6
  obtain ⟨k, rfl⟩ := sh_dig (t := 23) Try.underlying23 h7
  obtain ⟨i, rfl⟩ := sh_blob (n := 11) h8
  obtain ⟨u, l, rfl⟩ := sh_ints (n := 17) h9
  exact ⟨t, u, ⟨a, b, c, d, e, f, g, k, i, l⟩, rfl, f1, f2⟩
end Go.Aff.L10

/- Layer 10: MsgGets, and arguments' shapes. -/

