import Derived.Test.YtjofgcfmfecanaaGreatG18
import Derived.Test.YtjofgcfmfecanaaGreatG7

set_option linter.unusedSimpArgs false
set_option linter.unusedVariables false

/- The reference of layer 32, walked: Twice. -/
-- cuts
namespace Go.Aff.L10
open Go.Proofs Go.Aff Go.Aff.L01 Classical
set_option linter.unusedVariables false
set_option linter.unusedSimpArgs false
set_option maxRecDepth 20000
attribute [local go_sem] push_app app_app length_app cellAt_app cellAt_app0 set_app set_app0 objs_app objs_app0 List.cons_append List.nil_append List.length_cons List.length_nil List.getElem?_cons_zero List.getElem?_cons_succ List.set_cons_zero List.set_cons_succ List.length_map
attribute [-go_sem] cellAt_new
attribute [-simp] List.length_flatMap
attribute [local go_sem] Tryz.underlying3 Tryz.underlying4 Tryz.underlying5 Tryz.underlying9 Tryz.underlying39 Tryz.underlying40 Tryz.underlying43 Tryz.underlying25 Tryz.underlying50 Tryz.underlying76 subPs_0 subAt_0 subSet_0 subPs_1 subAt_1 subSet_1 subPs_2 subAt_2 subSet_2 subPs_3 subAt_3 subSet_3 subPs_4 subAt_4 subSet_4 subPs_5 subAt_5 subSet_5 sizes_sub shapes_sub fits_sub zero_sub zt_sub built_sub Tryz.underlying42 pendPs_0 pendAt_0 pendSet_0 pendPs_1 pendAt_1 pendSet_1 pendPs_2 pendAt_2 pendSet_2 pendPs_3 pendAt_3 pendSet_3 pendPs_4 pendAt_4 pendSet_4 pendPs_5 pendAt_5 pendSet_5 sizes_pend shapes_pend fits_pend zero_pend zt_pend built_pend Tryz.underlying104 repPs_0 repAt_0 repSet_0 repPs_1 repAt_1 repSet_1 repPs_2 repAt_2 repSet_2 repPs_3 repAt_3 repSet_3 repPs_4 repAt_4 repSet_4 repPs_5 repAt_5 repSet_5 repPs_6 repAt_6 repSet_6 repPs_7 repAt_7 repSet_7 repPs_8 repAt_8 repSet_8 repPs_9 repAt_9 repSet_9 sizes_rep shapes_rep fits_rep zero_rep zt_rep built_rep Tryz.underlying45 blobPs_0 blobAt_0 blobSet_0 blobPs_1 blobAt_1 blobSet_1 blobPs_2 blobAt_2 blobSet_2 blobPs_3 blobAt_3 blobSet_3 sizes_blob shapes_blob fits_blob zero_blob zt_blob built_blob Tryz.underlying47 msgPs_0 msgAt_0 msgSet_0 msgPs_1 msgAt_1 msgSet_1 msgPs_2 msgAt_2 msgSet_2 msgPs_3 msgAt_3 msgSet_3 msgPs_4 msgAt_4 msgSet_4 msgPs_5 msgAt_5 msgSet_5 msgPs_6 msgAt_6 msgSet_6 msgPs_7 msgAt_7 msgSet_7 msgPs_8 msgAt_8 msgSet_8 msgPs_9 msgAt_9 msgSet_9 sizes_msg shapes_msg fits_msg zero_msg zt_msg built_msg Tryz.underlying49 at_Ps_0 at_Set_0 at_Ps_1 at_Set_1 sizes_at_ shapes_at_
attribute [local go_sem] fits3 fits4 fits5 fits9 fits23 fits26 fits31 fits34 fits52 zt3 zero3 zt34 zero34 zt23 zero23 bin_sub_eql bin_pend_eql bin_pend_neq bin_blob_eql bin_dig23_eql bin_dig23_neq slice23
attribute [local go_sem ↓] blockQ_exit2
attribute [local simp] dig_ext
attribute [local go_sem] postPs_0 postAt_0 postSet_0 postPs_1 postAt_1 postSet_1 postPs_2 postAt_2 postSet_2 sizes_post shapes_post fits_post zero_post zt_post built_post Tryz.underlying38 keyPs_0 keyAt_0 keySet_0 keyPs_1 keyAt_1 keySet_1 keyPs_2 keyAt_2 keySet_2 sizes_key shapes_key fits_key zero_key zt_key built_key Tryz.underlying87 conPs_0 conAt_0 conSet_0 conPs_1 conAt_1 conSet_1 sizes_con shapes_con fits_con zero_con zt_con built_con Tryz.underlying89 Tryz.underlying22 Tryz.underlying28 Tryz.underlying29 Tryz.underlying31 Tryz.underlying24 Tryz.underlying25 Tryz.underlying125 Tryz.underlying127 Tryz.underlying128 Tryz.underlying130
theorem sameK_true {a k : Key} : sameK a k = true ↔ 0 < a.kind ∧ a = k := by simp [sameK]
/-- What Twice holds of a post's fellows. -/
def FI (ps : List Post) (k : Key) (j : Nat) (first : Int) (again : Bool) : Prop :=
  ((∀ q ∈ ps.take j, sameK (rkey q.b) k = false) ∧ first = -1 ∧ again = false) ∨
  (∃ (f : Nat) (pf : Post), first = f ∧ ps[f]? = some pf ∧ pf ∈ ps.take j ∧ sameK (rkey pf.b) k = true ∧ (again = true → ∃ q ∈ ps.take j, sameK (rkey q.b) k = true ∧ q.b ≠ pf.b) ∧ (again = false → ∀ q ∈ ps.take j, sameK (rkey q.b) k = true → q.b = pf.b))
theorem take_next {ps : List Post} {j : Nat} {q : Post} (h : ps[j]? = some q) : ps.take (j + 1) = ps.take j ++ [q] := by rw [List.take_add_one, h]; rfl
theorem FI.skip {ps : List Post} {k : Key} {j : Nat} {q : Post} {first : Int} {again : Bool} (h : FI ps k j first again) (hq : ps[j]? = some q) (hs : sameK (rkey q.b) k = false) : FI ps k (j + 1) first again := by
  unfold FI
  rw [take_next hq]
  rcases h with ⟨h1, h2, h3⟩ | ⟨f, pf, h1, h2, h3, h4, h5, h6⟩
  · refine .inl ⟨fun x hx => ?_, h2, h3⟩
    rcases List.mem_append.1 hx with hx | hx
    · exact h1 x hx
    · simp at hx; subst hx; exact hs
  · refine .inr ⟨f, pf, h1, h2, List.mem_append_left _ h3, h4, fun ha => ?_, fun ha x hx hsx => ?_⟩
    · obtain ⟨x, hx, hh⟩ := h5 ha; exact ⟨x, List.mem_append_left _ hx, hh⟩
    · rcases List.mem_append.1 hx with hx | hx
      · exact h6 ha x hx hsx
      · simp at hx; subst hx; rw [hs] at hsx; cases hsx
theorem FI.first {ps : List Post} {k : Key} {j : Nat} {q : Post} (h : ∀ x ∈ ps.take j, sameK (rkey x.b) k = false) (hq : ps[j]? = some q) (hs : sameK (rkey q.b) k = true) : FI ps k (j + 1) j false := by
  unfold FI
  rw [take_next hq]
  refine .inr ⟨j, q, rfl, hq, by simp, hs, (fun ha => by cases ha), fun _ x hx hsx => ?_⟩
  rcases List.mem_append.1 hx with hx | hx
  · rw [h x hx] at hsx; cases hsx
  · simp at hx; subst hx; rfl
section
variable {ps : List Post} {i : Nat} {p : Post}
theorem tw_none (hp : ps[i]? = some p) (h : ∀ x ∈ ps.take i, sameK (rkey x.b) (rkey p.b) = false) : twiceN (ps.take (i + 1)) = twiceN (ps.take i) := by
  unfold twiceN
  rw [conts_next hp, cont1_eq]
  by_cases hk : 0 < (rkey p.b).kind
  · rw [if_pos hk, L32.twos_snoc]
    have hz : L32.many (conts (ps.take i)) (rkey p.b) = 0 := many_zero fun y hy e => by
      obtain ⟨q, hq, h1, h2, h3⟩ := mem_conts.1 (show (y.1, y.2) ∈ conts (ps.take i) from hy)
      have := h q hq
      rw [sameK_true.2 ⟨h1, h2.trans e⟩] at this; cases this
    simp only [hz]
    split <;> simp
  · rw [if_neg hk, List.append_nil]
theorem tw_in {pf : Post} (hp : ps[i]? = some p) (hf : pf ∈ ps.take i) (hs : sameK (rkey pf.b) (rkey p.b) = true) (hb : p.b = pf.b) : twiceN (ps.take (i + 1)) = twiceN (ps.take i) := by
  obtain ⟨h1, h2⟩ := sameK_true.1 hs
  unfold twiceN
  rw [conts_next hp, cont1_eq, if_pos (by rw [← h2]; exact h1), L32.twos_snoc, if_pos (mem_conts.2 ⟨pf, hf, h1, h2, hb.symm⟩)]
theorem tw_two {pf q : Post} (hp : ps[i]? = some p) (hf : pf ∈ ps.take i) (hs : sameK (rkey pf.b) (rkey p.b) = true) (hq : q ∈ ps.take i) (hsq : sameK (rkey q.b) (rkey p.b) = true) (hne : q.b ≠ pf.b) : twiceN (ps.take (i + 1)) = twiceN (ps.take i) := by
  obtain ⟨h1, h2⟩ := sameK_true.1 hs
  obtain ⟨g1, g2⟩ := sameK_true.1 hsq
  have := many_two (mem_conts.2 ⟨q, hq, g1, g2, rfl⟩) (mem_conts.2 ⟨pf, hf, h1, h2, rfl⟩) hne
  unfold twiceN
  rw [conts_next hp, cont1_eq, if_pos (by rw [← h2]; exact h1), L32.twos_snoc]
  split
  · rfl
  · rw [if_neg (by simp only; omega)]
theorem tw_inc {pf : Post} (hp : ps[i]? = some p) (hf : pf ∈ ps.take i) (hs : sameK (rkey pf.b) (rkey p.b) = true) (hall : ∀ q ∈ ps.take i, sameK (rkey q.b) (rkey p.b) = true → q.b = pf.b) (hb : p.b ≠ pf.b) : twiceN (ps.take (i + 1)) = twiceN (ps.take i) + 1 := by
  obtain ⟨h1, h2⟩ := sameK_true.1 hs
  have hone := many_one (k := rkey p.b) (mem_conts.2 ⟨pf, hf, h1, h2, rfl⟩) fun y hy e => by
    obtain ⟨q, hq, g1, g2, g3⟩ := mem_conts.1 (show (y.1, y.2) ∈ conts (ps.take i) from hy)
    rw [← g3]; exact hall q hq (sameK_true.2 ⟨g1, g2.trans e⟩)
  unfold twiceN
  rw [conts_next hp, cont1_eq, if_pos (by rw [← h2]; exact h1), L32.twos_snoc, if_neg, if_pos (by simp only; omega)]
  intro hx
  obtain ⟨q, hq, g1, g2, g3⟩ := mem_conts.1 hx
  exact hb (g3.symm.trans (hall q hq (sameK_true.2 ⟨g1, g2⟩)))
end
theorem refTwice_c {ps : List Post} {ta : Tk} {σ : AST} {K : AV → AST → Prop} (hl : ps.length ≤ 1000) (hK : K (.int .i64 (twiceN ps : Nat)) σ) : TCalls Tryz.prog 13 [.slice ta (ps.map postV)] σ K := by
  refine tcalls_walk Tryz.f13 _ [.tmp 2] Tryz.func13 rfl rfl rfl mixed (Nat.le_of_ble_eq_true rfl) rfl fun hlen => ?_
  repeat' (first | (simp -dsimp only [↓reduceIte, go_sem]) | (refine arr_intro fun _ => ?_) | (refine later_intro ⟨keeps_nil, ?_⟩) | (refine later_intro ⟨keeps_refl, ?_⟩) | (refine both_ways ?_ ?_) | (rw [wrap_i64 (by omega) (by omega)]) | (refine guardV_split (fun h => ?_) (fun h => ?_) <;> (try rw [h]) <;> (try simp at h) <;> (try (exfalso; omega))))
  refine awp_rounds (fun (i : Nat) τ s => s = σ ∧ i ≤ ps.length ∧ τ 0 = .slice ta (ps.map postV) ∧ τ 3 = .int .i64 (twiceN (ps.take i) : Nat) ∧ τ 4 = .int .i64 i) (fun i => ps.length - i) 0 ?_ ?_
  · refine ⟨rfl, by omega, ?_, ?_, ?_⟩ <;> (try simp only [go_sem]) <;> (try rfl)
  · rintro i τ s ⟨rfl, hi, t0, t3, t4⟩
    by_cases hlt : i < ps.length
    · have hlt1 : (i : Int) < ps.length := by omega
      obtain ⟨p, hp, _⟩ := get_of_lt hlt
      have w1 : IntKind.i64.wrap ((i : Int) + 1) = (i : Int) + 1 := wrap_i64 (by omega) (by omega)
      repeat' (first | (simp -dsimp only [↓reduceIte, go_sem, t0, t3, t4, hlt1]) | (refine arr_intro fun _ => ?_) | (refine later_intro ⟨keeps_nil, ?_⟩) | (refine later_intro ⟨keeps_refl, ?_⟩) | (refine both_ways ?_ ?_) | (rw [wrap_i64 (by omega) (by omega)]) | (refine guardV_split (fun h => ?_) (fun h => ?_) <;> (try rw [h]) <;> (try simp at h) <;> (try (exfalso; omega))))
      refine awp_rounds (fun (j : Nat) τ s2 => ∃ first again, s2 = s ∧ j ≤ i ∧ FI ps (rkey p.b) j first again ∧ τ 0 = .slice ta (ps.map postV) ∧ τ 3 = .int .i64 (twiceN (ps.take i) : Nat) ∧ τ 4 = .int .i64 i ∧ τ 5 = .int .i64 first ∧ τ 6 = .bool again ∧ τ 7 = .int .i64 j) (fun j => i - j) 0 ?_ ?_
      · refine ⟨-1, false, rfl, by omega, .inl ⟨by simp, rfl, rfl⟩, ?_, ?_, ?_, ?_, ?_, ?_⟩ <;> (try simp only [go_sem, t0, t3, t4]) <;> (try rfl)
      · rintro j τ s2 ⟨first, again, rfl, hj, hF, t0, t3, t4, t5, t6, t7⟩
        by_cases hji : j < i
        · have hji1 : (j : Int) < i := by omega
          obtain ⟨q, hq, _⟩ := get_of_lt (show j < ps.length by omega)
          have w2 : IntKind.i64.wrap ((j : Int) + 1) = (j : Int) + 1 := wrap_i64 (by omega) (by omega)
          repeat' (first | (simp -dsimp only [↓reduceIte, go_sem, t0, t3, t4, t5, t6, t7, hji1]) | (refine arr_intro fun _ => ?_) | (refine later_intro ⟨keeps_nil, ?_⟩) | (refine later_intro ⟨keeps_refl, ?_⟩) | (refine both_ways ?_ ?_) | (rw [wrap_i64 (by omega) (by omega)]) | (refine guardV_split (fun h => ?_) (fun h => ?_) <;> (try rw [h]) <;> (try simp at h) <;> (try (exfalso; omega))) | (with_reducible refine awp_drawS (id := 10) [0, 1, 2, 3, 4, 5, 6, 7, 8, 9, 10, 11] (by kernel_rfl) ?_) | (refine nth_get hq ?_) | (refine nth_get hp ?_))
          refine refSame32_c ?_
          cases hs : sameK (rkey q.b) (rkey p.b) with
          | false =>
            repeat' (first | (simp -dsimp only [↓reduceIte, go_sem, t0, t3, t4, t5, t6, t7, w2]) | (refine arr_intro fun _ => ?_) | (refine later_intro ⟨keeps_nil, ?_⟩) | (refine later_intro ⟨keeps_refl, ?_⟩) | (refine both_ways ?_ ?_) | (rw [wrap_i64 (by omega) (by omega)]) | (refine guardV_split (fun h => ?_) (fun h => ?_) <;> (try rw [h]) <;> (try simp at h) <;> (try (exfalso; omega))))
            refine later_intro ⟨j + 1, by omega, first, again, ?_⟩
            (repeat' apply And.intro) <;> (try simp only [go_sem, t0, t3, t4, t5, t6, t7]) <;> first | rfl | omega | exact hF.skip hq hs | trivial
          | true =>
            have qb : (q.b == q.b) = true := by simp
            rcases hF with ⟨h1, rfl, rfl⟩ | ⟨f, pf, rfl, hpf, hmem, hsf, ha, hna⟩
            · have hm1 : (-1 : Int) < 0 := by omega
              repeat' (first | (simp -dsimp only [↓reduceIte, go_sem, t0, t3, t4, t5, t6, t7, hm1, qb, w2]) | (refine arr_intro fun _ => ?_) | (refine later_intro ⟨keeps_nil, ?_⟩) | (refine later_intro ⟨keeps_refl, ?_⟩) | (refine both_ways ?_ ?_) | (rw [wrap_i64 (by omega) (by omega)]) | (refine guardV_split (fun h => ?_) (fun h => ?_) <;> (try rw [h]) <;> (try simp at h) <;> (try (exfalso; omega))) | (with_reducible refine awp_drawS (id := 13) [0, 1, 2, 3, 4, 5, 6, 7, 8, 9, 10, 11, 12, 13, 14] (by kernel_rfl) ?_) | (refine nth_get hq ?_))
              refine later_intro ⟨j + 1, by omega, (j : Int), false, ?_⟩
              (repeat' apply And.intro) <;> (try simp only [go_sem, t0, t3, t4, t5, t6, t7]) <;> first | rfl | omega | exact FI.first h1 hq hs | trivial
            · have hm1 : ¬ (f : Int) < 0 := by omega
              cases again with
              | true =>
                have hn : FI ps (rkey p.b) (j + 1) f true := by
                  refine .inr ⟨f, pf, rfl, hpf, by rw [take_next hq]; exact List.mem_append_left _ hmem, hsf, fun _ => ?_, fun h => by cases h⟩
                  obtain ⟨x, hx, hh⟩ := ha rfl
                  exact ⟨x, by rw [take_next hq]; exact List.mem_append_left _ hx, hh⟩
                repeat' (first | (simp -dsimp only [↓reduceIte, go_sem, t0, t3, t4, t5, t6, t7, hm1, w2]) | (refine arr_intro fun _ => ?_) | (refine later_intro ⟨keeps_nil, ?_⟩) | (refine later_intro ⟨keeps_refl, ?_⟩) | (refine both_ways ?_ ?_) | (rw [wrap_i64 (by omega) (by omega)]) | (refine guardV_split (fun h => ?_) (fun h => ?_) <;> (try rw [h]) <;> (try simp at h) <;> (try (exfalso; omega))) | (with_reducible refine awp_drawS (id := 13) [0, 1, 2, 3, 4, 5, 6, 7, 8, 9, 10, 11, 12, 13, 14] (by kernel_rfl) ?_) | (refine nth_get hq ?_) | (refine nth_get hpf ?_))
                refine later_intro ⟨j + 1, by omega, (f : Int), true, ?_⟩
                (repeat' apply And.intro) <;> (try simp only [go_sem, t0, t3, t4, t5, t6, t7]) <;> first | rfl | omega | exact hn | trivial
              | false =>
                by_cases hqb : q.b = pf.b
                · have qe : (q.b == pf.b) = true := by simp [hqb]
                  have hn : FI ps (rkey p.b) (j + 1) f false := by
                    refine .inr ⟨f, pf, rfl, hpf, by rw [take_next hq]; exact List.mem_append_left _ hmem, hsf, (fun h => by cases h), fun _ x hx hsx => ?_⟩
                    rw [take_next hq] at hx
                    rcases List.mem_append.1 hx with hx | hx
                    · exact hna rfl x hx hsx
                    · simp at hx; subst hx; exact hqb
                  repeat' (first | (simp -dsimp only [↓reduceIte, go_sem, t0, t3, t4, t5, t6, t7, hm1, qe, w2]) | (refine arr_intro fun _ => ?_) | (refine later_intro ⟨keeps_nil, ?_⟩) | (refine later_intro ⟨keeps_refl, ?_⟩) | (refine both_ways ?_ ?_) | (rw [wrap_i64 (by omega) (by omega)]) | (refine guardV_split (fun h => ?_) (fun h => ?_) <;> (try rw [h]) <;> (try simp at h) <;> (try (exfalso; omega))) | (with_reducible refine awp_drawS (id := 13) [0, 1, 2, 3, 4, 5, 6, 7, 8, 9, 10, 11, 12, 13, 14] (by kernel_rfl) ?_) | (refine nth_get hq ?_) | (refine nth_get hpf ?_))
                  refine later_intro ⟨j + 1, by omega, (f : Int), false, ?_⟩
                  (repeat' apply And.intro) <;> (try simp only [go_sem, t0, t3, t4, t5, t6, t7]) <;> first | rfl | omega | exact hn | trivial
                · have qe : (q.b == pf.b) = false := by simp [hqb]
                  have hn : FI ps (rkey p.b) (j + 1) f true := by
                    refine .inr ⟨f, pf, rfl, hpf, by rw [take_next hq]; exact List.mem_append_left _ hmem, hsf, fun _ => ⟨q, by rw [take_next hq]; simp, hs, hqb⟩, fun h => by cases h⟩
                  repeat' (first | (simp -dsimp only [↓reduceIte, go_sem, t0, t3, t4, t5, t6, t7, hm1, qe, w2]) | (refine arr_intro fun _ => ?_) | (refine later_intro ⟨keeps_nil, ?_⟩) | (refine later_intro ⟨keeps_refl, ?_⟩) | (refine both_ways ?_ ?_) | (rw [wrap_i64 (by omega) (by omega)]) | (refine guardV_split (fun h => ?_) (fun h => ?_) <;> (try rw [h]) <;> (try simp at h) <;> (try (exfalso; omega))) | (with_reducible refine awp_drawS (id := 13) [0, 1, 2, 3, 4, 5, 6, 7, 8, 9, 10, 11, 12, 13, 14] (by kernel_rfl) ?_) | (refine nth_get hq ?_) | (refine nth_get hpf ?_))
                  refine later_intro ⟨j + 1, by omega, (f : Int), true, ?_⟩
                  (repeat' apply And.intro) <;> (try simp only [go_sem, t0, t3, t4, t5, t6, t7]) <;> first | rfl | omega | exact hn | trivial
        · obtain rfl : j = i := by omega
          have hji1 : ¬ ((j : Nat) : Int) < (j : Nat) := by omega
          have htl : twiceN (ps.take j) ≤ 1000 := by
            have h1 := twos_le (V := conts (ps.take j))
            have h2 := conts_len (l := ps.take j)
            rw [List.length_take] at h2
            unfold twiceN; omega
          have w3 : IntKind.i64.wrap ((twiceN (ps.take j) : Nat) + 1) = ((twiceN (ps.take j) + 1 : Nat) : Int) := by rw [wrap_i64 (by omega) (by omega)]; simp
          rcases hF with ⟨h1, rfl, rfl⟩ | ⟨f, pf, rfl, hpf, hmem, hsf, ha, hna⟩
          · have hm1 : ¬ (-1 : Int) ≥ 0 := by omega
            have ht := tw_none hp h1
            repeat' (first | (simp -dsimp only [↓reduceIte, go_sem, t0, t3, t4, t5, t6, t7, hji1, hm1, w1]) | (refine arr_intro fun _ => ?_) | (refine later_intro ⟨keeps_nil, ?_⟩) | (refine later_intro ⟨keeps_refl, ?_⟩) | (refine both_ways ?_ ?_) | (rw [wrap_i64 (by omega) (by omega)]) | (refine guardV_split (fun h => ?_) (fun h => ?_) <;> (try rw [h]) <;> (try simp at h) <;> (try (exfalso; omega))) | (with_reducible refine awp_drawS (id := 14) [0, 1, 2, 3, 4, 5, 6, 7, 8, 9, 10, 11, 12, 13, 14, 15, 16, 17, 18] (by kernel_rfl) ?_))
            refine later_intro ⟨j + 1, by omega, ?_⟩
            (repeat' apply And.intro) <;> (try simp only [go_sem, t0, t3, t4, ht]) <;> first | rfl | omega | trivial
          · have hm1 : (f : Int) ≥ 0 := by omega
            cases again with
            | true =>
              obtain ⟨x, hx, hsx, hne⟩ := ha rfl
              have ht := tw_two hp hmem hsf hx hsx hne
              repeat' (first | (simp -dsimp only [↓reduceIte, go_sem, t0, t3, t4, t5, t6, t7, hji1, hm1, w1]) | (refine arr_intro fun _ => ?_) | (refine later_intro ⟨keeps_nil, ?_⟩) | (refine later_intro ⟨keeps_refl, ?_⟩) | (refine both_ways ?_ ?_) | (rw [wrap_i64 (by omega) (by omega)]) | (refine guardV_split (fun h => ?_) (fun h => ?_) <;> (try rw [h]) <;> (try simp at h) <;> (try (exfalso; omega))) | (with_reducible refine awp_drawS (id := 14) [0, 1, 2, 3, 4, 5, 6, 7, 8, 9, 10, 11, 12, 13, 14, 15, 16, 17, 18] (by kernel_rfl) ?_))
              refine later_intro ⟨j + 1, by omega, ?_⟩
              (repeat' apply And.intro) <;> (try simp only [go_sem, t0, t3, t4, ht]) <;> first | rfl | omega | trivial
            | false =>
              by_cases hqb : p.b = pf.b
              · have qe : (p.b == pf.b) = true := by simp [hqb]
                have ht := tw_in hp hmem hsf hqb
                repeat' (first | (simp -dsimp only [↓reduceIte, go_sem, t0, t3, t4, t5, t6, t7, hji1, hm1, qe, w1]) | (refine arr_intro fun _ => ?_) | (refine later_intro ⟨keeps_nil, ?_⟩) | (refine later_intro ⟨keeps_refl, ?_⟩) | (refine both_ways ?_ ?_) | (rw [wrap_i64 (by omega) (by omega)]) | (refine guardV_split (fun h => ?_) (fun h => ?_) <;> (try rw [h]) <;> (try simp at h) <;> (try (exfalso; omega))) | (with_reducible refine awp_drawS (id := 14) [0, 1, 2, 3, 4, 5, 6, 7, 8, 9, 10, 11, 12, 13, 14, 15, 16, 17, 18] (by kernel_rfl) ?_) | (refine nth_get hp ?_) | (refine nth_get hpf ?_))
                refine later_intro ⟨j + 1, by omega, ?_⟩
                (repeat' apply And.intro) <;> (try simp only [go_sem, t0, t3, t4, ht]) <;> first | rfl | omega | trivial
              · have qe : (p.b == pf.b) = false := by simp [hqb]
                have ht := tw_inc hp hmem hsf (hna rfl) hqb
                repeat' (first | (simp -dsimp only [↓reduceIte, go_sem, t0, t3, t4, t5, t6, t7, hji1, hm1, qe, w1, w3]) | (refine arr_intro fun _ => ?_) | (refine later_intro ⟨keeps_nil, ?_⟩) | (refine later_intro ⟨keeps_refl, ?_⟩) | (refine both_ways ?_ ?_) | (rw [wrap_i64 (by omega) (by omega)]) | (refine guardV_split (fun h => ?_) (fun h => ?_) <;> (try rw [h]) <;> (try simp at h) <;> (try (exfalso; omega))) | (with_reducible refine awp_drawS (id := 14) [0, 1, 2, 3, 4, 5, 6, 7, 8, 9, 10, 11, 12, 13, 14, 15, 16, 17, 18] (by kernel_rfl) ?_) | (refine nth_get hp ?_) | (refine nth_get hpf ?_))
                refine later_intro ⟨j + 1, by omega, ?_⟩
                (repeat' apply And.intro) <;> (try simp only [go_sem, t0, t3, t4, ht]) <;> first | rfl | omega | trivial
    · obtain rfl : i = ps.length := by omega
      have hlt1 : ¬ ((ps.length : Nat) : Int) < ps.length := by omega
      rw [List.take_length] at t3
      repeat' (first | (simp -dsimp only [↓reduceIte, go_sem, t0, t3, t4, hlt1]) | (refine arr_intro fun _ => ?_) | (refine later_intro ⟨keeps_nil, ?_⟩) | (refine later_intro ⟨keeps_refl, ?_⟩) | (refine both_ways ?_ ?_) | (rw [wrap_i64 (by omega) (by omega)]) | (refine guardV_split (fun h => ?_) (fun h => ?_) <;> (try rw [h]) <;> (try simp at h) <;> (try (exfalso; omega))))
      exact hK
end Go.Aff.L10

/- The reference of layer 32, walked: Commits. -/
-- cuts
namespace Go.Aff.L10
open Go.Proofs Go.Aff Go.Aff.L01 Classical
set_option linter.unusedVariables false
set_option linter.unusedSimpArgs false
set_option maxRecDepth 20000
attribute [local go_sem] push_app app_app length_app cellAt_app cellAt_app0 set_app set_app0 objs_app objs_app0 List.cons_append List.nil_append List.length_cons List.length_nil List.getElem?_cons_zero List.getElem?_cons_succ List.set_cons_zero List.set_cons_succ List.length_map
attribute [-go_sem] cellAt_new
attribute [-simp] List.length_flatMap
attribute [local go_sem] Tryz.underlying3 Tryz.underlying4 Tryz.underlying5 Tryz.underlying9 Tryz.underlying39 Tryz.underlying40 Tryz.underlying43 Tryz.underlying25 Tryz.underlying50 Tryz.underlying76 subPs_0 subAt_0 subSet_0 subPs_1 subAt_1 subSet_1 subPs_2 subAt_2 subSet_2 subPs_3 subAt_3 subSet_3 subPs_4 subAt_4 subSet_4 subPs_5 subAt_5 subSet_5 sizes_sub shapes_sub fits_sub zero_sub zt_sub built_sub Tryz.underlying42 pendPs_0 pendAt_0 pendSet_0 pendPs_1 pendAt_1 pendSet_1 pendPs_2 pendAt_2 pendSet_2 pendPs_3 pendAt_3 pendSet_3 pendPs_4 pendAt_4 pendSet_4 pendPs_5 pendAt_5 pendSet_5 sizes_pend shapes_pend fits_pend zero_pend zt_pend built_pend Tryz.underlying104 repPs_0 repAt_0 repSet_0 repPs_1 repAt_1 repSet_1 repPs_2 repAt_2 repSet_2 repPs_3 repAt_3 repSet_3 repPs_4 repAt_4 repSet_4 repPs_5 repAt_5 repSet_5 repPs_6 repAt_6 repSet_6 repPs_7 repAt_7 repSet_7 repPs_8 repAt_8 repSet_8 repPs_9 repAt_9 repSet_9 sizes_rep shapes_rep fits_rep zero_rep zt_rep built_rep Tryz.underlying45 blobPs_0 blobAt_0 blobSet_0 blobPs_1 blobAt_1 blobSet_1 blobPs_2 blobAt_2 blobSet_2 blobPs_3 blobAt_3 blobSet_3 sizes_blob shapes_blob fits_blob zero_blob zt_blob built_blob Tryz.underlying47 msgPs_0 msgAt_0 msgSet_0 msgPs_1 msgAt_1 msgSet_1 msgPs_2 msgAt_2 msgSet_2 msgPs_3 msgAt_3 msgSet_3 msgPs_4 msgAt_4 msgSet_4 msgPs_5 msgAt_5 msgSet_5 msgPs_6 msgAt_6 msgSet_6 msgPs_7 msgAt_7 msgSet_7 msgPs_8 msgAt_8 msgSet_8 msgPs_9 msgAt_9 msgSet_9 sizes_msg shapes_msg fits_msg zero_msg zt_msg built_msg Tryz.underlying49 at_Ps_0 at_Set_0 at_Ps_1 at_Set_1 sizes_at_ shapes_at_
attribute [local go_sem] fits3 fits4 fits5 fits9 fits23 fits26 fits31 fits34 fits52 zt3 zero3 zt34 zero34 zt23 zero23 bin_sub_eql bin_pend_eql bin_pend_neq bin_blob_eql bin_dig23_eql bin_dig23_neq slice23
attribute [local go_sem ↓] blockQ_exit2
attribute [local simp] dig_ext
attribute [local go_sem] postPs_0 postAt_0 postSet_0 postPs_1 postAt_1 postSet_1 postPs_2 postAt_2 postSet_2 sizes_post shapes_post fits_post zero_post zt_post built_post Tryz.underlying38 keyPs_0 keyAt_0 keySet_0 keyPs_1 keyAt_1 keySet_1 keyPs_2 keyAt_2 keySet_2 sizes_key shapes_key fits_key zero_key zt_key built_key Tryz.underlying87 conPs_0 conAt_0 conSet_0 conPs_1 conAt_1 conSet_1 sizes_con shapes_con fits_con zero_con zt_con built_con Tryz.underlying89 Tryz.underlying22 Tryz.underlying28 Tryz.underlying29 Tryz.underlying31 Tryz.underlying24 Tryz.underlying25 Tryz.underlying125 Tryz.underlying127 Tryz.underlying128 Tryz.underlying130
attribute [local go_sem] fits30' fits51'
/-- Both lists that Commits makes. -/
structure CV (σ0 s : AST) (tv ta : Tk) (n : Nat) : Prop where
  x : Ext σ0 s
  n1 : tkNew σ0 tv
  n2 : tkNew σ0 ta
  ap : apart tv ta
  c1 : canApp s tv n 1
  c2 : canApp s ta n 1
theorem CV.ext {σ0 s s' : AST} {tv ta : Tk} {n : Nat} (h : CV σ0 s tv ta n) (e : Ext s s') : CV σ0 s' tv ta n := ⟨h.x.trans e, h.n1, h.n2, h.ap, canApp_keep e h.c1, canApp_keep e h.c2⟩
theorem refCommits_c {ps : List Post} {tq : Tk} {σ : AST} {K : AV → AST → Prop} (hl : ps.length ≤ 1000) (hK : ∀ s tv ta, Ext σ s → K (.tuple [.slice tv ((vws ps ps.length).map fun x => .str x.1), .slice ta ((vws ps ps.length).map fun x => .int .i64 x.2)]) s) : TCalls Tryz.prog 5 [.slice tq (ps.map postV)] σ K := by
  refine tcalls_walk Tryz.f5 _ [.tmp 2, .tmp 3] Tryz.func5 rfl rfl rfl mixed (Nat.le_of_ble_eq_true rfl) rfl fun hlen => ?_
  repeat' (first | (simp -dsimp only [↓reduceIte, go_sem]) | (refine arr_intro fun _ => ?_) | (rw [wrap_i64 (by omega) (by omega)]) | (refine guardV_split (fun h => ?_) (fun h => ?_) <;> (try rw [h]) <;> (try simp at h) <;> (try (exfalso; omega))))
  refine awp_rounds (fun (i : Nat) τ s => ∃ tv ta, i ≤ ps.length ∧ CV σ s tv ta (vws ps i).length ∧ τ 0 = .slice tq (ps.map postV) ∧ τ 4 = .slice tv ((vws ps i).map fun x => .str x.1) ∧ τ 5 = .slice ta ((vws ps i).map fun x => .int .i64 x.2) ∧ τ 6 = .int .i64 i) (fun i => ps.length - i) 0 ?_ ?_
  · refine ⟨.full, .full, by omega, ⟨Ext.refl _, .inl rfl, .inl rfl, apart_full, trivial, trivial⟩, ?_, ?_, ?_, ?_⟩ <;> (try simp only [go_sem]) <;> (try rfl)
  · rintro i τ s ⟨tv, ta, hi, hC, t0, t4, t5, t6⟩
    by_cases hlt : i < ps.length
    · have hlt1 : (i : Int) < ps.length := by omega
      obtain ⟨p, hp, _⟩ := get_of_lt hlt
      have w1 : IntKind.i64.wrap ((i : Int) + 1) = (i : Int) + 1 := wrap_i64 (by omega) (by omega)
      have hV : vws ps (i + 1) = vws ps i ++ vStep i p := by rw [vws]; simp [hp]
      have hvl := vws_len (l := ps) (i := i)
      repeat' (first | (simp -dsimp only [↓reduceIte, go_sem, t0, t4, t5, t6, hlt1]) | (refine arr_intro fun _ => ?_) | (rw [wrap_i64 (by omega) (by omega)]) | (refine guardV_split (fun h => ?_) (fun h => ?_) <;> (try rw [h]) <;> (try simp at h) <;> (try (exfalso; omega))) | (refine nth_get hp ?_))
      refine refGet_c fun t u => ?_
      unfold vStep at hV
      generalize getR p.b = R at *
      have skip : ¬ (R.2 = 0 ∧ comM32 R.1) → vws ps (i + 1) = vws ps i := fun h => by rw [hV, if_neg h, List.append_nil]
      have hCa := fun l => hC.ext (Ext.app s l)
      by_cases he : R.2 = 0
      · by_cases hc : comM32 R.1
        · rw [if_pos ⟨he, hc⟩] at hV
          have hc2 : ∀ n, canApp (growS (s.app [.cells (msgV t u R.1)]) tv n 1) ta (vws ps i).length 1 := fun n => canApp_apart hC.ap (hCa [.cells (msgV t u R.1)]).c2
          have cb : ∀ n p, cellAt (growS (s.app [.cells (msgV t u R.1)]) tv n 1) s.objs.length p = (msgV t u R.1).at p := fun n p => by rw [cellAt_growS]; exact cellAt_known objs_app0 p
          have hend : CV σ (growS (growS (s.app [.cells (msgV t u R.1)]) tv ((vws ps i).length + 1) 1) ta ((vws ps i).length + 1) 1) (growT (s.app [.cells (msgV t u R.1)]) tv) (growT (growS (s.app [.cells (msgV t u R.1)]) tv ((vws ps i).length + 1) 1) ta) (vws ps (i + 1)).length := by
            have h := hCa [.cells (msgV t u R.1)]
            rw [hV, List.length_append]
            generalize s.app [.cells (msgV t u R.1)] = s1 at *
            have e1 := h.x.grow (n := (vws ps i).length + 1) (es := 1) h.n1
            have p1 := apart_grow (m := (vws ps i).length) (f := 1) h.ap h.c2
            have k1 : canApp (growS s1 tv ((vws ps i).length + 1) 1) (growT s1 tv) ((vws ps i).length + 1) 1 := canApp_grow h.c1
            exact ⟨e1.grow h.n2, h.n1.grow h.x, h.n2.grow e1, (apart_grow p1.symm k1).symm, canApp_apart p1.symm k1, canApp_grow (hc2 _)⟩
          rcases hc with hk | hk
          all_goals
            repeat' (first | (simp -dsimp only [↓reduceIte, go_sem, t0, t4, t5, t6, he, hk, w1, cb]) | (refine arr_intro fun _ => ?_) | (rw [wrap_i64 (by omega) (by omega)]) | (refine guardV_split (fun h => ?_) (fun h => ?_) <;> (try rw [h]) <;> (try simp at h) <;> (try (exfalso; omega))) | (refine build_slice E30s rfl (by decide) (by intro v hv; simp at hv; subst hv; simp [go_sem]) ?_) | (refine append_s (x := (R.1.view, (i : Int))) (hCa _).c1 (Nat.le_trans hvl (Nat.le_trans hi hl)) ?_) | (refine build_slice E51i rfl (by decide) (by intro v hv; simp at hv; subst hv; simp [go_sem]) ?_) | (refine append_i (x := (R.1.view, (i : Int))) (hc2 _) (Nat.le_trans hvl (Nat.le_trans hi hl)) ?_))
            refine later_intro ⟨i + 1, by omega, _, _, by omega, hend, ?_⟩
            (repeat' apply And.intro) <;> (try simp only [go_sem, t0, t4, t5, t6, hV]) <;> first | rfl | trivial
        · have h3 : ¬ R.1.kind = 3 := fun h => hc (.inl h)
          have h10 : ¬ R.1.kind = 10 := fun h => hc (.inr h)
          have hs := skip fun h => hc h.2
          repeat' (first | (simp -dsimp only [↓reduceIte, go_sem, t0, t4, t5, t6, he, h3, h10, w1]) | (refine arr_intro fun _ => ?_) | (rw [wrap_i64 (by omega) (by omega)]) | (refine guardV_split (fun h => ?_) (fun h => ?_) <;> (try rw [h]) <;> (try simp at h) <;> (try (exfalso; omega))))
          refine later_intro ⟨i + 1, by omega, tv, ta, by omega, by rw [hs]; exact hCa _, ?_⟩
          (repeat' apply And.intro) <;> (try simp only [go_sem, t0, t4, t5, t6, hs]) <;> first | rfl | trivial
      · have hs := skip fun h => he h.1
        repeat' (first | (simp -dsimp only [↓reduceIte, go_sem, t0, t4, t5, t6, he, w1]) | (refine arr_intro fun _ => ?_) | (rw [wrap_i64 (by omega) (by omega)]) | (refine guardV_split (fun h => ?_) (fun h => ?_) <;> (try rw [h]) <;> (try simp at h) <;> (try (exfalso; omega))))
        refine later_intro ⟨i + 1, by omega, tv, ta, by omega, by rw [hs]; exact hCa _, ?_⟩
        (repeat' apply And.intro) <;> (try simp only [go_sem, t0, t4, t5, t6, hs]) <;> first | rfl | trivial
    · obtain rfl : i = ps.length := by omega
      have hlt1 : ¬ ((ps.length : Nat) : Int) < ps.length := by omega
      repeat' (first | (simp -dsimp only [↓reduceIte, go_sem, t0, t4, t5, t6, hlt1]) | (refine arr_intro fun _ => ?_) | (rw [wrap_i64 (by omega) (by omega)]) | (refine guardV_split (fun h => ?_) (fun h => ?_) <;> (try rw [h]) <;> (try simp at h) <;> (try (exfalso; omega))))
      exact hK _ _ _ hC.x
end Go.Aff.L10

/- The reference of layer 32, walked: Read. -/
-- cuts
namespace Go.Aff.L10
open Go.Proofs Go.Aff Go.Aff.L01 Classical
set_option linter.unusedVariables false
set_option linter.unusedSimpArgs false
set_option maxRecDepth 20000
attribute [local go_sem] push_app app_app length_app cellAt_app cellAt_app0 set_app set_app0 objs_app objs_app0 List.cons_append List.nil_append List.length_cons List.length_nil List.getElem?_cons_zero List.getElem?_cons_succ List.set_cons_zero List.set_cons_succ List.length_map
attribute [-go_sem] cellAt_new
attribute [-simp] List.length_flatMap
attribute [local go_sem] Tryz.underlying3 Tryz.underlying4 Tryz.underlying5 Tryz.underlying9 Tryz.underlying39 Tryz.underlying40 Tryz.underlying43 Tryz.underlying25 Tryz.underlying50 Tryz.underlying76 subPs_0 subAt_0 subSet_0 subPs_1 subAt_1 subSet_1 subPs_2 subAt_2 subSet_2 subPs_3 subAt_3 subSet_3 subPs_4 subAt_4 subSet_4 subPs_5 subAt_5 subSet_5 sizes_sub shapes_sub fits_sub zero_sub zt_sub built_sub Tryz.underlying42 pendPs_0 pendAt_0 pendSet_0 pendPs_1 pendAt_1 pendSet_1 pendPs_2 pendAt_2 pendSet_2 pendPs_3 pendAt_3 pendSet_3 pendPs_4 pendAt_4 pendSet_4 pendPs_5 pendAt_5 pendSet_5 sizes_pend shapes_pend fits_pend zero_pend zt_pend built_pend Tryz.underlying104 repPs_0 repAt_0 repSet_0 repPs_1 repAt_1 repSet_1 repPs_2 repAt_2 repSet_2 repPs_3 repAt_3 repSet_3 repPs_4 repAt_4 repSet_4 repPs_5 repAt_5 repSet_5 repPs_6 repAt_6 repSet_6 repPs_7 repAt_7 repSet_7 repPs_8 repAt_8 repSet_8 repPs_9 repAt_9 repSet_9 sizes_rep shapes_rep fits_rep zero_rep zt_rep built_rep Tryz.underlying45 blobPs_0 blobAt_0 blobSet_0 blobPs_1 blobAt_1 blobSet_1 blobPs_2 blobAt_2 blobSet_2 blobPs_3 blobAt_3 blobSet_3 sizes_blob shapes_blob fits_blob zero_blob zt_blob built_blob Tryz.underlying47 msgPs_0 msgAt_0 msgSet_0 msgPs_1 msgAt_1 msgSet_1 msgPs_2 msgAt_2 msgSet_2 msgPs_3 msgAt_3 msgSet_3 msgPs_4 msgAt_4 msgSet_4 msgPs_5 msgAt_5 msgSet_5 msgPs_6 msgAt_6 msgSet_6 msgPs_7 msgAt_7 msgSet_7 msgPs_8 msgAt_8 msgSet_8 msgPs_9 msgAt_9 msgSet_9 sizes_msg shapes_msg fits_msg zero_msg zt_msg built_msg Tryz.underlying49 at_Ps_0 at_Set_0 at_Ps_1 at_Set_1 sizes_at_ shapes_at_
attribute [local go_sem] fits3 fits4 fits5 fits9 fits23 fits26 fits31 fits34 fits52 zt3 zero3 zt34 zero34 zt23 zero23 bin_sub_eql bin_pend_eql bin_pend_neq bin_blob_eql bin_dig23_eql bin_dig23_neq slice23
attribute [local go_sem ↓] blockQ_exit2
attribute [local simp] dig_ext
attribute [local go_sem] postPs_0 postAt_0 postSet_0 postPs_1 postAt_1 postSet_1 postPs_2 postAt_2 postSet_2 sizes_post shapes_post fits_post zero_post zt_post built_post Tryz.underlying38 keyPs_0 keyAt_0 keySet_0 keyPs_1 keyAt_1 keySet_1 keyPs_2 keyAt_2 keySet_2 sizes_key shapes_key fits_key zero_key zt_key built_key Tryz.underlying87 conPs_0 conAt_0 conSet_0 conPs_1 conAt_1 conSet_1 sizes_con shapes_con fits_con zero_con zt_con built_con Tryz.underlying89 Tryz.underlying22 Tryz.underlying28 Tryz.underlying29 Tryz.underlying31 Tryz.underlying24 Tryz.underlying25 Tryz.underlying125 Tryz.underlying127 Tryz.underlying128 Tryz.underlying130
attribute [local go_sem] fits30' fits51' rptPs_0 rptAt_0 rptSet_0 rptPs_1 rptAt_1 rptSet_1 rptPs_2 rptAt_2 rptSet_2 rptPs_3 rptAt_3 rptSet_3 rptPs_4 rptAt_4 rptSet_4 sizes_rpt shapes_rpt fits_rpt zero_rpt zt_rpt built_rpt fits24 fits25 sizes_arrI shapes_arrI arrI_len mm_max
open Go.Aff.L09 (ForkP allBefore allBefore_zero allBefore_step allBefore_row)
/-- What Read has found of two that do not fit. -/
def FS (ps : List Post) (k i : Nat) (F T : Int) : Prop :=
  (allBefore (vwsV ps) k i ∧ F = -1 ∧ T = -1) ∨ (0 ≤ F ∧ RepP ps F T)
theorem refRead_c {ps : List Post} {ta : Tk} {σ : AST} {K : AV → AST → Prop} (hl : ps.length ≤ 1000) (hK : ∀ F T, RepP ps F T → K (rptV (rptOf ps F T)) σ) : TCalls Tryz.prog 6 [.slice ta (ps.map postV)] σ K := by
  refine TCalls.drop ?_
  have z1 : rpt0.kinds = kindsN (ps.take 0) := rfl
  have z2 : rpt0.last = lastN (ps.take 0) := rfl
  refine tcalls_walk Tryz.f6 _ [.cell 2 31] Tryz.func6 rfl rfl rfl mixed (Nat.le_of_ble_eq_true rfl) rfl fun hlen => ?_
  repeat' (first | (simp -dsimp only [↓reduceIte, go_sem, z1, z2]) | (refine arr_intro fun _ => ?_) | (refine later_intro ⟨keeps_nil, ?_⟩) | (refine later_intro ⟨keeps_refl, ?_⟩) | (with_reducible refine keeps_go ?_ ?_; focus (first | (simp [keeps_cons, keeps_none, objs_app, objs_app0]; done) | (simp only [keeps_cons, keeps_none, objs_app0, objs_app, and_true]; first | rfl | exact ⟨rfl, rfl⟩ | exact ⟨rfl, rfl, rfl⟩))) | (with_reducible refine (And.intro (a := keeps _ _ _) ?_ ?_); focus (first | (simp [keeps_cons, keeps_none, objs_app, objs_app0]; done) | (simp only [keeps_cons, keeps_none, objs_app0, objs_app, and_true]; first | rfl | exact ⟨rfl, rfl⟩ | exact ⟨rfl, rfl, rfl⟩))) | (refine both_ways ?_ ?_) | (rw [wrap_i64 (by omega) (by omega)]) | (refine guardV_split (fun h => ?_) (fun h => ?_) <;> (try rw [h]) <;> (try simp at h) <;> (try (exfalso; omega))) | ((refine refTwice_c hl ?_)))
  have h0 : (Ext σ (σ.app [.cells (rptV rpt0), .cells (rptV ⟨kindsN (ps.take 0), -1, -1, (twiceN ps : Nat), lastN (ps.take 0)⟩)])) ∧ (σ.app [.cells (rptV rpt0), .cells (rptV ⟨kindsN (ps.take 0), -1, -1, (twiceN ps : Nat), lastN (ps.take 0)⟩)]).objs[σ.objs.length]? = some (.cells (rptV rpt0)) ∧ (σ.app [.cells (rptV rpt0), .cells (rptV ⟨kindsN (ps.take 0), -1, -1, (twiceN ps : Nat), lastN (ps.take 0)⟩)]).objs[σ.objs.length + 1]? = some (.cells (rptV ⟨kindsN (ps.take 0), -1, -1, (twiceN ps : Nat), lastN (ps.take 0)⟩)) :=
    ⟨Ext.app _ _, by rw [objs_app0]; rfl, by rw [objs_app]; rfl⟩
  refine awp_rounds (fun (i : Nat) τ s => i ≤ ps.length ∧ (Ext σ s ∧ s.objs[σ.objs.length]? = some (.cells (rptV rpt0)) ∧ s.objs[σ.objs.length + 1]? = some (.cells (rptV ⟨kindsN (ps.take i), -1, -1, (twiceN ps : Nat), lastN (ps.take i)⟩))) ∧ τ 0 = .slice ta (ps.map postV) ∧ τ 2 = .ptr (some (σ.objs.length, [])) ∧ τ 3 = .ptr (some (σ.objs.length + 1, [])) ∧ τ 4 = .int .i64 i) (fun i => ps.length - i) 0 ?_ ?_
  · refine ⟨by omega, h0, ?_, ?_, ?_, ?_⟩ <;> (try simp only [go_sem]) <;> (try rfl)
  · rintro i τ s ⟨hi, ⟨hx, oo, ov⟩, t0, t2, t3, t4⟩
    by_cases hlt : i < ps.length
    · have hlt1 : (i : Int) < ps.length := by omega
      obtain ⟨p, hp, _⟩ := get_of_lt hlt
      have w1 : IntKind.i64.wrap ((i : Int) + 1) = (i : Int) + 1 := wrap_i64 (by omega) (by omega)
      have hrs := rpt_step (tw := (twiceN ps : Nat)) hp
      have hb : ∀ q, 0 ≤ kindsN (ps.take i) q ∧ kindsN (ps.take i) q ≤ 1000000 := fun q => by
        have := kinds_b (ps := ps.take i) (q := q)
        rw [List.length_take] at this; omega
      have hb' : ∀ q, 0 ≤ (⟨kindsN (ps.take i), -1, -1, (twiceN ps : Nat), lastN (ps.take i)⟩ : Rpt).kinds q ∧ (⟨kindsN (ps.take i), -1, -1, (twiceN ps : Nat), lastN (ps.take i)⟩ : Rpt).kinds q ≤ 1000000 := hb
      clear hb
      generalize (⟨kindsN (ps.take i), -1, -1, (twiceN ps : Nat), lastN (ps.take i)⟩ : Rpt) = x at *
      have hl1 := cell_len ov
      have hj : σ.objs.length ≤ σ.objs.length + 1 := by omega
      generalize hj0 : σ.objs.length + 1 = j at *
      have hO : ∀ l, (s.app l).objs[j]? = some (.cells (rptV x)) := fun l => objs_known_app ov l
      have hC := fun l => cellAt_known (hO l)
      have hS : ∀ l o', (s.app l).set j o' = (s.set j o').app l := fun l o' => set_app' hl1
      have hO2 : ∀ o' l, ((s.set j o').app l).objs[j]? = some o' := fun o' l => objs_known_app (objs_setS' hl1) l
      have hC2 : ∀ v l p, cellAt ((s.set j (.cells v)).app l) j p = v.at p := fun v l => cellAt_known (hO2 _ l)
      have hB2 : ∀ o' l p, cellAt ((s.set j o').app l) s.objs.length p = (l[0]?).bind fun o => objCell o p := fun o' l p => by
        have := cellAt_app0 (σ := s.set j o') (l := l) (p := p)
        rwa [length_set] at this
      have hS2 : ∀ o' o'' l, ((s.set j o').app l).set j o'' = (s.set j o'').app l := fun o' o'' l => by rw [set_app' (by rw [length_set]; exact hl1), set_set']
      have fin : ∀ y l, y = rptStep x p → Ext σ ((s.set j (.cells (rptV y))).app l) ∧ ((s.set j (.cells (rptV y))).app l).objs[σ.objs.length]? = some (.cells (rptV rpt0)) ∧ ((s.set j (.cells (rptV y))).app l).objs[j]? = some (.cells (rptV ⟨kindsN (ps.take (i + 1)), -1, -1, (twiceN ps : Nat), lastN (ps.take (i + 1))⟩)) := fun y l e => by
        rw [hrs] at e; subst e
        exact ⟨(hx.set hj).trans (Ext.app _ _), objs_known_app (by rw [objs_setN' (by omega)]; exact oo) l, hO2 _ l⟩
      clear hrs
      repeat' (first | (simp -dsimp only [↓reduceIte, go_sem, t0, t2, t3, t4, hlt1]) | (refine arr_intro fun _ => ?_) | (refine later_intro ⟨keeps_nil, ?_⟩) | (refine later_intro ⟨keeps_refl, ?_⟩) | (with_reducible refine keeps_go ?_ ?_; focus (first | (simp [keeps_cons, keeps_none, objs_app, objs_app0]; done) | (simp only [keeps_cons, keeps_none, objs_app0, objs_app, and_true]; first | rfl | exact ⟨rfl, rfl⟩ | exact ⟨rfl, rfl, rfl⟩))) | (with_reducible refine (And.intro (a := keeps _ _ _) ?_ ?_); focus (first | (simp [keeps_cons, keeps_none, objs_app, objs_app0]; done) | (simp only [keeps_cons, keeps_none, objs_app0, objs_app, and_true]; first | rfl | exact ⟨rfl, rfl⟩ | exact ⟨rfl, rfl, rfl⟩))) | (refine both_ways ?_ ?_) | (rw [wrap_i64 (by omega) (by omega)]) | (refine guardV_split (fun h => ?_) (fun h => ?_) <;> (try rw [h]) <;> (try simp at h) <;> (try (exfalso; omega))) | (refine nth_get hp ?_))
      refine refGet_c fun t u => ?_
      by_cases he : (getR p.b).2 = 0
      · have hm := getR_ok he
        obtain ⟨k, hk⟩ : ∃ k : Nat, (getR p.b).1.kind = k := ⟨(getR p.b).1.kind.toNat, by have := hm.kind_in; omega⟩
        have hk12 : k < 12 := by have := hm.kind_in; omega
        obtain ⟨c, hc⟩ : ∃ c : Nat, (getR p.b).1.client = c := ⟨(getR p.b).1.client.toNat, by have := hm.2.1; simp only [In] at this; omega⟩
        have hc8 : c < 8 := by have := hm.2.1; simp only [In] at this; omega
        have hbk := hb' k
        have hw : IntKind.i64.wrap (x.kinds k + 1) = x.kinds k + 1 := wrap_i64 (by omega) (by omega)
        have r0 := fun x => rat0 (x := x) hk12
        have s0 := fun x y => rset0 (x := x) (y := y) hk12
        have r4 := fun x => rat4 (x := x) hc8
        have s4 := fun x y => rset4 (x := x) (y := y) hc8
        by_cases h1 : k = 1
        · subst h1
          have hk' : (getR p.b).1.kind = 1 := hk
          have hst := rstep_sub (x := x) he hk' hc
          rw [hst] at fin
          clear hst
          generalize getR p.b = r at *
          repeat' (first | (simp -dsimp only [↓reduceIte, go_sem, t0, t2, t3, t4, he, hC, hC2, hB2, hO, hO2, hS, hS2, hk', hc, r0, s0, rok0, r4, s4, rok4, hw, w1]) | (refine arr_intro fun _ => ?_) | (refine later_intro ⟨keeps_nil, ?_⟩) | (refine later_intro ⟨keeps_refl, ?_⟩) | (with_reducible refine keeps_go ?_ ?_; focus (first | (simp [keeps_cons, keeps_none, objs_app, objs_app0]; done) | (simp only [keeps_cons, keeps_none, objs_app0, objs_app, and_true]; first | rfl | exact ⟨rfl, rfl⟩ | exact ⟨rfl, rfl, rfl⟩))) | (with_reducible refine (And.intro (a := keeps _ _ _) ?_ ?_); focus (first | (simp [keeps_cons, keeps_none, objs_app, objs_app0]; done) | (simp only [keeps_cons, keeps_none, objs_app0, objs_app, and_true]; first | rfl | exact ⟨rfl, rfl⟩ | exact ⟨rfl, rfl, rfl⟩))) | (refine both_ways ?_ ?_) | (rw [wrap_i64 (by omega) (by omega)]) | (refine guardV_split (fun h => ?_) (fun h => ?_) <;> (try rw [h]) <;> (try simp at h) <;> (try (exfalso; omega))) | (with_reducible refine awp_drawT (id := 8) (.op 0 2 (.op 1 2 (.op 2 2 (.op 3 2 (.op 4 2 (.op 5 2 (.op 6 2 (.op 7 2 (.op 8 2 (.op 9 2 (.op 10 1 .nil))))))))))) (by kernel_rfl) ?_) | (with_reducible refine awp_drawT (id := 10) (.op 0 2 (.op 1 2 (.op 2 2 (.op 3 2 (.op 4 2 (.op 5 2 (.op 6 2 (.op 7 2 (.op 8 2 (.op 9 2 (.op 10 2 (.op 11 2 (.op 12 2 (.op 13 1 .nil)))))))))))))) (by kernel_rfl) ?_) | (refine idx0 (k := 1) (hC _) hk12 ?_) | (refine idx4 (hC _) hc8 ?_) | (refine idx0 (k := 1) (hC2 _ _) hk12 ?_) | (refine idx4 (hC2 _ _) hc8 ?_))
          refine later_intro ⟨i + 1, by omega, by omega, fin _ _ rfl, ?_, ?_, ?_, ?_⟩ <;> (try simp only [go_sem, t0, t2, t3, t4]) <;> (try rfl)
        · have h1' : ((k : Int) == 1) = false := by simp; omega
          have hst := rstep_other (x := x) he hk h1
          rw [hst] at fin
          clear hst
          generalize getR p.b = r at *
          repeat' (first | (simp -dsimp only [↓reduceIte, go_sem, t0, t2, t3, t4, he, hC, hC2, hB2, hO, hO2, hS, hS2, hk, hc, r0, s0, rok0, r4, s4, rok4, hw, h1', w1]) | (refine arr_intro fun _ => ?_) | (refine later_intro ⟨keeps_nil, ?_⟩) | (refine later_intro ⟨keeps_refl, ?_⟩) | (with_reducible refine keeps_go ?_ ?_; focus (first | (simp [keeps_cons, keeps_none, objs_app, objs_app0]; done) | (simp only [keeps_cons, keeps_none, objs_app0, objs_app, and_true]; first | rfl | exact ⟨rfl, rfl⟩ | exact ⟨rfl, rfl, rfl⟩))) | (with_reducible refine (And.intro (a := keeps _ _ _) ?_ ?_); focus (first | (simp [keeps_cons, keeps_none, objs_app, objs_app0]; done) | (simp only [keeps_cons, keeps_none, objs_app0, objs_app, and_true]; first | rfl | exact ⟨rfl, rfl⟩ | exact ⟨rfl, rfl, rfl⟩))) | (refine both_ways ?_ ?_) | (rw [wrap_i64 (by omega) (by omega)]) | (refine guardV_split (fun h => ?_) (fun h => ?_) <;> (try rw [h]) <;> (try simp at h) <;> (try (exfalso; omega))) | (with_reducible refine awp_drawT (id := 8) (.op 0 2 (.op 1 2 (.op 2 2 (.op 3 2 (.op 4 2 (.op 5 2 (.op 6 2 (.op 7 2 (.op 8 2 (.op 9 2 (.op 10 1 .nil))))))))))) (by kernel_rfl) ?_) | (with_reducible refine awp_drawT (id := 10) (.op 0 2 (.op 1 2 (.op 2 2 (.op 3 2 (.op 4 2 (.op 5 2 (.op 6 2 (.op 7 2 (.op 8 2 (.op 9 2 (.op 10 2 (.op 11 2 (.op 12 2 (.op 13 1 .nil)))))))))))))) (by kernel_rfl) ?_) | (refine idx0 (hC _) hk12 ?_) | (refine idx4 (hC _) hc8 ?_) | (refine idx0 (hC2 _ _) hk12 ?_) | (refine idx4 (hC2 _ _) hc8 ?_))
          refine later_intro ⟨i + 1, by omega, by omega, fin _ _ rfl, ?_, ?_, ?_, ?_⟩ <;> (try simp only [go_sem, t0, t2, t3, t4]) <;> (try rfl)
      · have hbk := hb' 0
        have hw : IntKind.i64.wrap (x.kinds 0 + 1) = x.kinds 0 + 1 := wrap_i64 (by omega) (by omega)
        have r0 := fun x => rat0 (x := x) (k := 0) (by decide)
        have s0 := fun x y => rset0 (x := x) (y := y) (k := 0) (by decide)
        have hst := rstep_none (x := x) he
        rw [hst] at fin
        clear hst
        generalize getR p.b = r at *
        repeat' (first | (simp -dsimp only [↓reduceIte, go_sem, t0, t2, t3, t4, he, hC, hC2, hB2, hO, hO2, hS, hS2, r0, s0, rok0, hw, w1]) | (refine arr_intro fun _ => ?_) | (refine later_intro ⟨keeps_nil, ?_⟩) | (refine later_intro ⟨keeps_refl, ?_⟩) | (with_reducible refine keeps_go ?_ ?_; focus (first | (simp [keeps_cons, keeps_none, objs_app, objs_app0]; done) | (simp only [keeps_cons, keeps_none, objs_app0, objs_app, and_true]; first | rfl | exact ⟨rfl, rfl⟩ | exact ⟨rfl, rfl, rfl⟩))) | (with_reducible refine (And.intro (a := keeps _ _ _) ?_ ?_); focus (first | (simp [keeps_cons, keeps_none, objs_app, objs_app0]; done) | (simp only [keeps_cons, keeps_none, objs_app0, objs_app, and_true]; first | rfl | exact ⟨rfl, rfl⟩ | exact ⟨rfl, rfl, rfl⟩))) | (refine both_ways ?_ ?_) | (rw [wrap_i64 (by omega) (by omega)]) | (refine guardV_split (fun h => ?_) (fun h => ?_) <;> (try rw [h]) <;> (try simp at h) <;> (try (exfalso; omega))) | (with_reducible refine awp_drawT (id := 8) (.op 0 2 (.op 1 2 (.op 2 2 (.op 3 2 (.op 4 2 (.op 5 2 (.op 6 2 (.op 7 2 (.op 8 2 (.op 9 2 (.op 10 1 .nil))))))))))) (by kernel_rfl) ?_) | (refine idx0 (k := 0) (hC _) (by decide) ?_))
        refine later_intro ⟨i + 1, by omega, by omega, fin _ _ rfl, ?_, ?_, ?_, ?_⟩ <;> (try simp only [go_sem, t0, t2, t3, t4]) <;> (try rfl)
    · obtain rfl : i = ps.length := by omega
      have hlt1 : ¬ ((ps.length : Nat) : Int) < ps.length := by omega
      rw [List.take_length] at ov
      repeat' (first | (simp -dsimp only [↓reduceIte, go_sem, t0, t2, t3, t4, hlt1]) | (refine arr_intro fun _ => ?_) | (refine later_intro ⟨keeps_nil, ?_⟩) | (refine later_intro ⟨keeps_refl, ?_⟩) | (with_reducible refine keeps_go ?_ ?_; focus (first | (simp [keeps_cons, keeps_none, objs_app, objs_app0]; done) | (simp only [keeps_cons, keeps_none, objs_app0, objs_app, and_true]; first | rfl | exact ⟨rfl, rfl⟩ | exact ⟨rfl, rfl, rfl⟩))) | (with_reducible refine (And.intro (a := keeps _ _ _) ?_ ?_); focus (first | (simp [keeps_cons, keeps_none, objs_app, objs_app0]; done) | (simp only [keeps_cons, keeps_none, objs_app0, objs_app, and_true]; first | rfl | exact ⟨rfl, rfl⟩ | exact ⟨rfl, rfl, rfl⟩))) | (refine both_ways ?_ ?_) | (rw [wrap_i64 (by omega) (by omega)]) | (refine guardV_split (fun h => ?_) (fun h => ?_) <;> (try rw [h]) <;> (try simp at h) <;> (try (exfalso; omega))))
      refine refCommits_c hl fun s1 tv tw hx1 => ?_
      have e : ((vws ps ps.length).map fun x => AV.str x.1) = (vwsV ps).map AV.str := by rw [← vws_views, List.map_map]; rfl
      have e2 : ((vws ps ps.length).map fun x => AV.int .i64 x.2) = ((vws ps ps.length).map (·.2)).map (AV.int .i64) := by rw [List.map_map]; rfl
      rw [e, e2]
      have hge : ∀ (i : Nat) F, ((vws ps ps.length).map (·.2))[i]? = some F → 0 ≤ F := fun i F h => by
        obtain ⟨x, hx, rfl⟩ := List.mem_map.1 (List.mem_of_getElem? h)
        exact vws_ge x hx
      have hlen : ((vws ps ps.length).map (·.2)).length = (vwsV ps).length := by rw [← vws_views]; simp
      have hvl : (vwsV ps).length ≤ ps.length := by rw [← hlen, List.length_map]; exact vws_len
      have hP : ∀ F T a b, ForkP (vwsV ps) a b → ((a < 0 ∧ F = -1 ∧ T = -1) ∨ (0 ≤ a ∧ 0 ≤ b ∧ ((vws ps ps.length).map (·.2))[a.toNat]? = some F ∧ ((vws ps ps.length).map (·.2))[b.toNat]? = some T)) → RepP ps F T := fun F T a b h1 h2 => ⟨a, b, h1, h2⟩
      generalize (vws ps ps.length).map (·.2) = at_ at *
      have oo1 := ext_known hx1 oo
      have ov1 := ext_known hx1 ov
      have hx2 := hx.trans hx1
      clear oo ov hx hx1
      repeat' (first | (simp -dsimp only [↓reduceIte, go_sem, t0, t2, t3, t4]) | (refine arr_intro fun _ => ?_) | (refine later_intro ⟨keeps_nil, ?_⟩) | (refine later_intro ⟨keeps_refl, ?_⟩) | (with_reducible refine keeps_go ?_ ?_; focus (first | (simp [keeps_cons, keeps_none, objs_app, objs_app0]; done) | (simp only [keeps_cons, keeps_none, objs_app0, objs_app, and_true]; first | rfl | exact ⟨rfl, rfl⟩ | exact ⟨rfl, rfl, rfl⟩))) | (with_reducible refine (And.intro (a := keeps _ _ _) ?_ ?_); focus (first | (simp [keeps_cons, keeps_none, objs_app, objs_app0]; done) | (simp only [keeps_cons, keeps_none, objs_app0, objs_app, and_true]; first | rfl | exact ⟨rfl, rfl⟩ | exact ⟨rfl, rfl, rfl⟩))) | (refine both_ways ?_ ?_) | (rw [wrap_i64 (by omega) (by omega)]) | (refine guardV_split (fun h => ?_) (fun h => ?_) <;> (try rw [h]) <;> (try simp at h) <;> (try (exfalso; omega))))
      refine awp_rounds (fun (k : Nat) τ s => ∃ F T, k ≤ (vwsV ps).length ∧ (Ext σ s ∧ s.objs[σ.objs.length]? = some (.cells (rptV rpt0)) ∧ s.objs[σ.objs.length + 1]? = some (.cells (rptV ⟨kindsN ps, F, T, (twiceN ps : Nat), lastN ps⟩))) ∧ FS ps k 0 F T ∧ τ 2 = .ptr (some (σ.objs.length, [])) ∧ τ 3 = .ptr (some (σ.objs.length + 1, [])) ∧ τ 7 = .slice tv ((vwsV ps).map AV.str) ∧ τ 8 = .slice tw (at_.map (AV.int .i64)) ∧ τ 9 = .int .i64 k) (fun k => (vwsV ps).length - k) 0 ?_ ?_
      · refine ⟨-1, -1, by omega, ⟨hx2, oo1, ov1⟩, .inl ⟨allBefore_zero, rfl, rfl⟩, ?_, ?_, ?_, ?_, ?_⟩ <;> (try simp only [go_sem, t0, t2, t3, t4]) <;> (try rfl)
      · rintro k τ s ⟨F, T, hk, hSt, hFS, t2, t3, t7, t8, t9⟩
        by_cases hlt : k < (vwsV ps).length
        · have hlt1 : (k : Int) < (vwsV ps).length := by omega
          obtain ⟨y, hy⟩ : ∃ y, (vwsV ps)[k]? = some y := ⟨_, List.getElem?_eq_getElem hlt⟩
          have gk : at_[k]? = some at_[k] := List.getElem?_eq_getElem (by omega)
          generalize at_[k] = ak at gk
          have w1 : IntKind.i64.wrap ((k : Int) + 1) = (k : Int) + 1 := wrap_i64 (by omega) (by omega)
          repeat' (first | (simp -dsimp only [↓reduceIte, go_sem, t2, t3, t7, t8, t9, hlt1]) | (refine arr_intro fun _ => ?_) | (refine later_intro ⟨keeps_nil, ?_⟩) | (refine later_intro ⟨keeps_refl, ?_⟩) | (with_reducible refine keeps_go ?_ ?_; focus (first | (simp [keeps_cons, keeps_none, objs_app, objs_app0]; done) | (simp only [keeps_cons, keeps_none, objs_app0, objs_app, and_true]; first | rfl | exact ⟨rfl, rfl⟩ | exact ⟨rfl, rfl, rfl⟩))) | (with_reducible refine (And.intro (a := keeps _ _ _) ?_ ?_); focus (first | (simp [keeps_cons, keeps_none, objs_app, objs_app0]; done) | (simp only [keeps_cons, keeps_none, objs_app0, objs_app, and_true]; first | rfl | exact ⟨rfl, rfl⟩ | exact ⟨rfl, rfl, rfl⟩))) | (refine both_ways ?_ ?_) | (rw [wrap_i64 (by omega) (by omega)]) | (refine guardV_split (fun h => ?_) (fun h => ?_) <;> (try rw [h]) <;> (try simp at h) <;> (try (exfalso; omega))))
          refine awp_rounds (fun (i : Nat) τ s => ∃ F T, i ≤ k ∧ (Ext σ s ∧ s.objs[σ.objs.length]? = some (.cells (rptV rpt0)) ∧ s.objs[σ.objs.length + 1]? = some (.cells (rptV ⟨kindsN ps, F, T, (twiceN ps : Nat), lastN ps⟩))) ∧ FS ps k i F T ∧ τ 2 = .ptr (some (σ.objs.length, [])) ∧ τ 3 = .ptr (some (σ.objs.length + 1, [])) ∧ τ 7 = .slice tv ((vwsV ps).map AV.str) ∧ τ 8 = .slice tw (at_.map (AV.int .i64)) ∧ τ 9 = .int .i64 k ∧ τ 10 = .int .i64 i) (fun i => k - i) 0 ?_ ?_
          · refine ⟨F, T, by omega, hSt, hFS, ?_, ?_, ?_, ?_, ?_, ?_⟩ <;> (try simp only [go_sem, t2, t3, t7, t8, t9]) <;> (try rfl)
          · rintro i τ s ⟨F, T, hi, ⟨hx, oo, ov⟩, hFS, t2, t3, t7, t8, t9, t10⟩
            have cv := cellAt_known ov
            have hl1 := cell_len ov
            by_cases hik : i < k
            · have hik1 : (i : Int) < k := by omega
              obtain ⟨x, hgx⟩ : ∃ x, (vwsV ps)[i]? = some x := ⟨_, List.getElem?_eq_getElem (show i < (vwsV ps).length by omega)⟩
              have gi : at_[i]? = some at_[i] := List.getElem?_eq_getElem (by omega)
              generalize at_[i] = ai at gi
              have w2 : IntKind.i64.wrap ((i : Int) + 1) = (i : Int) + 1 := wrap_i64 (by omega) (by omega)
              rcases hFS with ⟨hb, rfl, rfl⟩ | ⟨hF0, hR⟩
              · have hm1 : (-1 : Int) < 0 := by omega
                repeat' (first | (simp -dsimp only [↓reduceIte, go_sem, t2, t3, t7, t8, t9, t10, hik1, cv, hm1]) | (refine arr_intro fun _ => ?_) | (refine later_intro ⟨keeps_nil, ?_⟩) | (refine later_intro ⟨keeps_refl, ?_⟩) | (with_reducible refine keeps_go ?_ ?_; focus (first | (simp [keeps_cons, keeps_none, objs_app, objs_app0]; done) | (simp only [keeps_cons, keeps_none, objs_app0, objs_app, and_true]; first | rfl | exact ⟨rfl, rfl⟩ | exact ⟨rfl, rfl, rfl⟩))) | (with_reducible refine (And.intro (a := keeps _ _ _) ?_ ?_); focus (first | (simp [keeps_cons, keeps_none, objs_app, objs_app0]; done) | (simp only [keeps_cons, keeps_none, objs_app0, objs_app, and_true]; first | rfl | exact ⟨rfl, rfl⟩ | exact ⟨rfl, rfl, rfl⟩))) | (refine both_ways ?_ ?_) | (rw [wrap_i64 (by omega) (by omega)]) | (refine guardV_split (fun h => ?_) (fun h => ?_) <;> (try rw [h]) <;> (try simp at h) <;> (try (exfalso; omega))) | (with_reducible refine awp_drawS (id := 18) [0, 1, 2, 3, 4, 5, 6, 7, 8, 9, 10, 11, 12, 13, 14] (by kernel_rfl) ?_) | (refine nth_get hgx ?_) | (refine nth_get hy ?_))
                refine refFit_c ?_
                cases hf : Go.Aff.L09.fit x y with
                | true =>
                  repeat' (first | (simp -dsimp only [↓reduceIte, go_sem, t2, t3, t7, t8, t9, t10, w2]) | (refine arr_intro fun _ => ?_) | (refine later_intro ⟨keeps_nil, ?_⟩) | (refine later_intro ⟨keeps_refl, ?_⟩) | (with_reducible refine keeps_go ?_ ?_; focus (first | (simp [keeps_cons, keeps_none, objs_app, objs_app0]; done) | (simp only [keeps_cons, keeps_none, objs_app0, objs_app, and_true]; first | rfl | exact ⟨rfl, rfl⟩ | exact ⟨rfl, rfl, rfl⟩))) | (with_reducible refine (And.intro (a := keeps _ _ _) ?_ ?_); focus (first | (simp [keeps_cons, keeps_none, objs_app, objs_app0]; done) | (simp only [keeps_cons, keeps_none, objs_app0, objs_app, and_true]; first | rfl | exact ⟨rfl, rfl⟩ | exact ⟨rfl, rfl, rfl⟩))) | (refine both_ways ?_ ?_) | (rw [wrap_i64 (by omega) (by omega)]) | (refine guardV_split (fun h => ?_) (fun h => ?_) <;> (try rw [h]) <;> (try simp at h) <;> (try (exfalso; omega))))
                  refine later_intro ⟨i + 1, by omega, -1, -1, by omega, ⟨hx, oo, ov⟩, .inl ⟨allBefore_step hb hgx hy hf, rfl, rfl⟩, ?_, ?_, ?_, ?_, ?_, ?_⟩ <;> (try simp only [go_sem, t2, t3, t7, t8, t9, t10]) <;> (try rfl)
                | false =>
                  have hR : RepP ps ai ak := hP ai ak i k (.inl ⟨i, k, x, y, hik, hgx, hy, hf, hb, rfl, rfl⟩) (.inr ⟨by omega, by omega, by simpa using gi, by simpa using gk⟩)
                  have oB : ∀ o, (s.set (σ.objs.length + 1) o).objs[σ.objs.length + 1]? = some o := fun o => objs_setS' hl1
                  have cB := fun v => cellAt_known (oB (.cells v))
                  have sB : ∀ o o', (s.set (σ.objs.length + 1) o).set (σ.objs.length + 1) o' = s.set (σ.objs.length + 1) o' := fun o o' => set_set'
                  repeat' (first | (simp -dsimp only [↓reduceIte, go_sem, t2, t3, t7, t8, t9, t10, w2, cv, ov, oB, cB, sB]) | (refine arr_intro fun _ => ?_) | (refine later_intro ⟨keeps_nil, ?_⟩) | (refine later_intro ⟨keeps_refl, ?_⟩) | (with_reducible refine keeps_go ?_ ?_; focus (first | (simp [keeps_cons, keeps_none, objs_app, objs_app0]; done) | (simp only [keeps_cons, keeps_none, objs_app0, objs_app, and_true]; first | rfl | exact ⟨rfl, rfl⟩ | exact ⟨rfl, rfl, rfl⟩))) | (with_reducible refine (And.intro (a := keeps _ _ _) ?_ ?_); focus (first | (simp [keeps_cons, keeps_none, objs_app, objs_app0]; done) | (simp only [keeps_cons, keeps_none, objs_app0, objs_app, and_true]; first | rfl | exact ⟨rfl, rfl⟩ | exact ⟨rfl, rfl, rfl⟩))) | (refine both_ways ?_ ?_) | (rw [wrap_i64 (by omega) (by omega)]) | (refine guardV_split (fun h => ?_) (fun h => ?_) <;> (try rw [h]) <;> (try simp at h) <;> (try (exfalso; omega))) | (refine nth_get gi ?_) | (refine nth_get gk ?_))
                  have hx' : ∀ o, Ext σ (s.set (σ.objs.length + 1) o) := fun o => hx.set (by omega)
                  have oo' : ∀ o, (s.set (σ.objs.length + 1) o).objs[σ.objs.length]? = some (.cells (rptV rpt0)) := fun o => by rw [objs_setN' (by omega)]; exact oo
                  have hFS' : FS ps k (i + 1) ai ak := .inr ⟨hge i ai gi, hR⟩
                  refine later_intro ⟨i + 1, by omega, ai, ak, by omega, ?_⟩
                  (repeat' apply And.intro) <;> (try simp only [go_sem, t2, t3, t7, t8, t9, t10]) <;> first | rfl | exact hx' _ | exact oo' _ | exact oB _ | exact hFS' | trivial
              · have hm1 : ¬ F < 0 := by omega
                repeat' (first | (simp -dsimp only [↓reduceIte, go_sem, t2, t3, t7, t8, t9, t10, hik1, cv, hm1, w2]) | (refine arr_intro fun _ => ?_) | (refine later_intro ⟨keeps_nil, ?_⟩) | (refine later_intro ⟨keeps_refl, ?_⟩) | (with_reducible refine keeps_go ?_ ?_; focus (first | (simp [keeps_cons, keeps_none, objs_app, objs_app0]; done) | (simp only [keeps_cons, keeps_none, objs_app0, objs_app, and_true]; first | rfl | exact ⟨rfl, rfl⟩ | exact ⟨rfl, rfl, rfl⟩))) | (with_reducible refine (And.intro (a := keeps _ _ _) ?_ ?_); focus (first | (simp [keeps_cons, keeps_none, objs_app, objs_app0]; done) | (simp only [keeps_cons, keeps_none, objs_app0, objs_app, and_true]; first | rfl | exact ⟨rfl, rfl⟩ | exact ⟨rfl, rfl, rfl⟩))) | (refine both_ways ?_ ?_) | (rw [wrap_i64 (by omega) (by omega)]) | (refine guardV_split (fun h => ?_) (fun h => ?_) <;> (try rw [h]) <;> (try simp at h) <;> (try (exfalso; omega))) | (with_reducible refine awp_drawS (id := 18) [0, 1, 2, 3, 4, 5, 6, 7, 8, 9, 10, 11, 12, 13, 14] (by kernel_rfl) ?_) | (refine nth_get hgx ?_) | (refine nth_get hy ?_))
                refine later_intro ⟨i + 1, by omega, F, T, by omega, ⟨hx, oo, ov⟩, .inr ⟨hF0, hR⟩, ?_, ?_, ?_, ?_, ?_, ?_⟩ <;> (try simp only [go_sem, t2, t3, t7, t8, t9, t10]) <;> (try rfl)
            · obtain rfl : i = k := by omega
              have hik1 : ¬ ((i : Nat) : Int) < (i : Nat) := by omega
              repeat' (first | (simp -dsimp only [↓reduceIte, go_sem, t2, t3, t7, t8, t9, t10, hik1, w1]) | (refine arr_intro fun _ => ?_) | (refine later_intro ⟨keeps_nil, ?_⟩) | (refine later_intro ⟨keeps_refl, ?_⟩) | (with_reducible refine keeps_go ?_ ?_; focus (first | (simp [keeps_cons, keeps_none, objs_app, objs_app0]; done) | (simp only [keeps_cons, keeps_none, objs_app0, objs_app, and_true]; first | rfl | exact ⟨rfl, rfl⟩ | exact ⟨rfl, rfl, rfl⟩))) | (with_reducible refine (And.intro (a := keeps _ _ _) ?_ ?_); focus (first | (simp [keeps_cons, keeps_none, objs_app, objs_app0]; done) | (simp only [keeps_cons, keeps_none, objs_app0, objs_app, and_true]; first | rfl | exact ⟨rfl, rfl⟩ | exact ⟨rfl, rfl, rfl⟩))) | (refine both_ways ?_ ?_) | (rw [wrap_i64 (by omega) (by omega)]) | (refine guardV_split (fun h => ?_) (fun h => ?_) <;> (try rw [h]) <;> (try simp at h) <;> (try (exfalso; omega))))
              refine later_intro ⟨i + 1, by omega, F, T, by omega, ⟨hx, oo, ov⟩, hFS.imp (fun h => ⟨allBefore_row h.1, h.2⟩) id, ?_, ?_, ?_, ?_, ?_⟩ <;> (try simp only [go_sem, t2, t3, t7, t8, t9, t10]) <;> (try rfl)
        · obtain rfl : k = (vwsV ps).length := by omega
          have hlt1 : ¬ (((vwsV ps).length : Nat) : Int) < (vwsV ps).length := by omega
          obtain ⟨hx, oo, ov⟩ := hSt
          have hR : RepP ps F T := by
            rcases hFS with ⟨h, rfl, rfl⟩ | ⟨_, h⟩
            · exact hP _ _ (-1) (-1) (.inr ⟨h, rfl, rfl⟩) (.inl ⟨by omega, rfl, rfl⟩)
            · exact h
          have cv := cellAt_known ov
          have co := cellAt_known oo
          have l0 := cell_len oo
          have oA : ∀ o, (s.set σ.objs.length o).objs[σ.objs.length]? = some o := fun o => objs_setS' l0
          have cA := fun v => cellAt_known (oA (.cells v))
          repeat' (first | (simp -dsimp only [↓reduceIte, go_sem, t2, t3, t7, t8, t9, hlt1, cv, ov, co, oo, oA, cA]) | (refine arr_intro fun _ => ?_) | (refine later_intro ⟨keeps_nil, ?_⟩) | (refine later_intro ⟨keeps_refl, ?_⟩) | (with_reducible refine keeps_go ?_ ?_; focus (first | (simp [keeps_cons, keeps_none, objs_app, objs_app0]; done) | (simp only [keeps_cons, keeps_none, objs_app0, objs_app, and_true]; first | rfl | exact ⟨rfl, rfl⟩ | exact ⟨rfl, rfl, rfl⟩))) | (with_reducible refine (And.intro (a := keeps _ _ _) ?_ ?_); focus (first | (simp [keeps_cons, keeps_none, objs_app, objs_app0]; done) | (simp only [keeps_cons, keeps_none, objs_app0, objs_app, and_true]; first | rfl | exact ⟨rfl, rfl⟩ | exact ⟨rfl, rfl, rfl⟩))) | (refine both_ways ?_ ?_) | (rw [wrap_i64 (by omega) (by omega)]) | (refine guardV_split (fun h => ?_) (fun h => ?_) <;> (try rw [h]) <;> (try simp at h) <;> (try (exfalso; omega))))
          refine ⟨hx.set (by omega), by simp only [AV.noRef]; exact noRef_rpt, ?_⟩
          simp only [AV.strip, strip_rpt]
          exact hK F T hR
end Go.Aff.L10

/- Layer 32: AuditReads. -/
-- cuts
namespace Go.Aff.L10
open Go.Proofs Go.Aff Go.Aff.L01 Classical
set_option linter.unusedVariables false
set_option linter.unusedSimpArgs false
set_option maxRecDepth 20000
attribute [local go_sem] push_app app_app length_app cellAt_app cellAt_app0 set_app set_app0 objs_app objs_app0 List.cons_append List.nil_append List.length_cons List.length_nil List.getElem?_cons_zero List.getElem?_cons_succ List.set_cons_zero List.set_cons_succ List.length_map
attribute [-go_sem] cellAt_new
attribute [-simp] List.length_flatMap
attribute [local go_sem] Tryz.underlying3 Tryz.underlying4 Tryz.underlying5 Tryz.underlying9 Tryz.underlying39 Tryz.underlying40 Tryz.underlying43 Tryz.underlying25 Tryz.underlying50 Tryz.underlying76 subPs_0 subAt_0 subSet_0 subPs_1 subAt_1 subSet_1 subPs_2 subAt_2 subSet_2 subPs_3 subAt_3 subSet_3 subPs_4 subAt_4 subSet_4 subPs_5 subAt_5 subSet_5 sizes_sub shapes_sub fits_sub zero_sub zt_sub built_sub Tryz.underlying42 pendPs_0 pendAt_0 pendSet_0 pendPs_1 pendAt_1 pendSet_1 pendPs_2 pendAt_2 pendSet_2 pendPs_3 pendAt_3 pendSet_3 pendPs_4 pendAt_4 pendSet_4 pendPs_5 pendAt_5 pendSet_5 sizes_pend shapes_pend fits_pend zero_pend zt_pend built_pend Tryz.underlying104 repPs_0 repAt_0 repSet_0 repPs_1 repAt_1 repSet_1 repPs_2 repAt_2 repSet_2 repPs_3 repAt_3 repSet_3 repPs_4 repAt_4 repSet_4 repPs_5 repAt_5 repSet_5 repPs_6 repAt_6 repSet_6 repPs_7 repAt_7 repSet_7 repPs_8 repAt_8 repSet_8 repPs_9 repAt_9 repSet_9 sizes_rep shapes_rep fits_rep zero_rep zt_rep built_rep Tryz.underlying45 blobPs_0 blobAt_0 blobSet_0 blobPs_1 blobAt_1 blobSet_1 blobPs_2 blobAt_2 blobSet_2 blobPs_3 blobAt_3 blobSet_3 sizes_blob shapes_blob fits_blob zero_blob zt_blob built_blob Tryz.underlying47 msgPs_0 msgAt_0 msgSet_0 msgPs_1 msgAt_1 msgSet_1 msgPs_2 msgAt_2 msgSet_2 msgPs_3 msgAt_3 msgSet_3 msgPs_4 msgAt_4 msgSet_4 msgPs_5 msgAt_5 msgSet_5 msgPs_6 msgAt_6 msgSet_6 msgPs_7 msgAt_7 msgSet_7 msgPs_8 msgAt_8 msgSet_8 msgPs_9 msgAt_9 msgSet_9 sizes_msg shapes_msg fits_msg zero_msg zt_msg built_msg Tryz.underlying49 at_Ps_0 at_Set_0 at_Ps_1 at_Set_1 sizes_at_ shapes_at_
attribute [local go_sem] fits3 fits4 fits5 fits9 fits23 fits26 fits31 fits34 fits52 zt3 zero3 zt34 zero34 zt23 zero23 bin_sub_eql bin_pend_eql bin_pend_neq bin_blob_eql bin_dig23_eql bin_dig23_neq slice23
attribute [local go_sem ↓] blockQ_exit2
attribute [local simp] dig_ext
attribute [local go_sem] postPs_0 postAt_0 postSet_0 postPs_1 postAt_1 postSet_1 postPs_2 postAt_2 postSet_2 sizes_post shapes_post fits_post zero_post zt_post built_post Tryz.underlying38 keyPs_0 keyAt_0 keySet_0 keyPs_1 keyAt_1 keySet_1 keyPs_2 keyAt_2 keySet_2 sizes_key shapes_key fits_key zero_key zt_key built_key Tryz.underlying87 conPs_0 conAt_0 conSet_0 conPs_1 conAt_1 conSet_1 sizes_con shapes_con fits_con zero_con zt_con built_con Tryz.underlying89 Tryz.underlying22 Tryz.underlying28 Tryz.underlying29 Tryz.underlying31 Tryz.underlying24 Tryz.underlying25 Tryz.underlying125 Tryz.underlying127 Tryz.underlying128 Tryz.underlying130
attribute [local go_sem] fits30' fits51' rptPs_0 rptAt_0 rptSet_0 rptPs_1 rptAt_1 rptSet_1 rptPs_2 rptAt_2 rptSet_2 rptPs_3 rptAt_3 rptSet_3 rptPs_4 rptAt_4 rptSet_4 sizes_rpt shapes_rpt fits_rpt zero_rpt zt_rpt built_rpt fits24 fits25 sizes_arrI shapes_arrI arrI_len mm_max
theorem eq_arrS {m t n : Nat} {f : Nat → Int} (hu : Tryz.prog.underlying t = some (.array n 3)) : eqA Tryz.prog (m + 5) t (.agg (arrI n f)) (.agg (arrI n f)) = some true := by
  have h1 : isI64 Tryz.prog 3 = true := by unfold isI64; rw [Tryz.underlying3]
  have h2 : Tryz.prog.cellsOf 3 = 1 := by kernel_rfl
  simp only [eqA, hu, h1, h2, arrI_len, true_and, and_true]
  rw [if_pos (by omega), eqI_arrI]; simp
theorem eq_intS {n : Nat} {a : Int} : eqA Tryz.prog (n + 1) 3 (.int .i64 a) (.int .i64 a) = some true := by rw [eq_int3]; simp
theorem eq_rptS {x : Rpt} : eqA Tryz.prog 40 31 (.agg (rptPs x)) (.agg (rptPs x)) = some true := by
  have hs : Tryz.prog.stoodInHeld 31 = false := by kernel_rfl
  simp only [eqA, Tryz.underlying31, hs, if_true]
  unfold rptPs
  rw [eqAs_cons ⟨by decide, by simp [AV.sizes, AV.size, sizes_arrI], by simp [AV.sizes, AV.size, sizes_arrI], by kernel_rfl, by simp [AV.size, sizes_arrI]; kernel_rfl, by kernel_rfl, by simp [AV.size, sizes_arrI]; kernel_rfl⟩ (eq_arrS Tryz.underlying28), if_pos rfl]
  rw [eqAs_cons ⟨by decide, by simp [AV.sizes, AV.size, sizes_arrI], by simp [AV.sizes, AV.size, sizes_arrI], by kernel_rfl, by simp [AV.size]; kernel_rfl, by kernel_rfl, by simp [AV.size]; kernel_rfl⟩ eq_intS, if_pos rfl]
  rw [eqAs_cons ⟨by decide, by simp [AV.sizes, AV.size, sizes_arrI], by simp [AV.sizes, AV.size, sizes_arrI], by kernel_rfl, by simp [AV.size]; kernel_rfl, by kernel_rfl, by simp [AV.size]; kernel_rfl⟩ eq_intS, if_pos rfl]
  rw [eqAs_cons ⟨by decide, by simp [AV.sizes, AV.size, sizes_arrI], by simp [AV.sizes, AV.size, sizes_arrI], by kernel_rfl, by simp [AV.size]; kernel_rfl, by kernel_rfl, by simp [AV.size]; kernel_rfl⟩ eq_intS, if_pos rfl]
  rw [eqAs_cons ⟨by decide, by simp [AV.sizes, AV.size, sizes_arrI], by simp [AV.sizes, AV.size, sizes_arrI], by kernel_rfl, by simp [AV.size, sizes_arrI]; kernel_rfl, by kernel_rfl, by simp [AV.size, sizes_arrI]; kernel_rfl⟩ (eq_arrS Tryz.underlying29), if_pos rfl]
  simp only [eqAs]
theorem bin_rptS {x : Rpt} {KV : AV → Prop} (hK : KV (.bool true)) : binW Tryz.prog .eql 31 (rptV x) (rptV x) KV := by
  have h : Tryz.prog.eqGuardType Tryz.prog.depth 31 = false := by kernel_rfl
  exact ⟨h, true, eq_rptS, hK⟩
theorem refSameT_c {l : List (List UInt8)} {ta tb : Tk} {σ : AST} {K : AV → AST → Prop} (hl : l.length ≤ 1000) (hK : K (.bool true) σ) : TCalls Tryz.prog 9 [.slice ta (l.map AV.str), .slice tb (l.map AV.str)] σ K := by
  have e1 : (((l.length : Nat) : Int) != (l.length : Nat)) = false := by simp
  refine tcalls_walk Tryz.f9 _ [.tmp 4] Tryz.func9 rfl rfl rfl mixed (Nat.le_of_ble_eq_true rfl) rfl fun hlen => ?_
  repeat' (first | (simp -dsimp only [↓reduceIte, go_sem, e1]) | (refine arr_intro fun _ => ?_) | (refine later_intro ⟨keeps_nil, ?_⟩) | (refine later_intro ⟨keeps_refl, ?_⟩) | (refine both_ways ?_ ?_) | (rw [wrap_i64 (by omega) (by omega)]) | (refine guardV_split (fun h => ?_) (fun h => ?_) <;> (try rw [h]) <;> (try simp at h) <;> (try (exfalso; omega))))
  refine awp_rounds (fun (i : Nat) τ s => s = σ ∧ i ≤ l.length ∧ τ 0 = .slice ta (l.map AV.str) ∧ τ 1 = .slice tb (l.map AV.str) ∧ τ 5 = .int .i64 i) (fun i => l.length - i) 0 ?_ ?_
  · refine ⟨rfl, by omega, ?_, ?_, ?_⟩ <;> (try simp only [go_sem]) <;> (try rfl)
  · rintro i τ s ⟨rfl, hi, t0, t1, t5⟩
    by_cases hlt : i < l.length
    · have hlt1 : (i : Int) < l.length := by omega
      obtain ⟨x, hx⟩ : ∃ x, l[i]? = some x := ⟨_, List.getElem?_eq_getElem hlt⟩
      have qx : (x == x) = true := by simp
      have w1 : IntKind.i64.wrap ((i : Int) + 1) = (i : Int) + 1 := wrap_i64 (by omega) (by omega)
      repeat' (first | (simp -dsimp only [↓reduceIte, go_sem, t0, t1, t5, hlt1, qx, w1]) | (refine arr_intro fun _ => ?_) | (refine later_intro ⟨keeps_nil, ?_⟩) | (refine later_intro ⟨keeps_refl, ?_⟩) | (refine both_ways ?_ ?_) | (rw [wrap_i64 (by omega) (by omega)]) | (refine guardV_split (fun h => ?_) (fun h => ?_) <;> (try rw [h]) <;> (try simp at h) <;> (try (exfalso; omega))) | (with_reducible refine awp_drawS (id := 6) [0, 1, 2, 3, 4, 5, 6, 7, 8] (by kernel_rfl) ?_) | (refine nth_get hx ?_))
      refine later_intro ⟨i + 1, by omega, ?_⟩
      (repeat' apply And.intro) <;> (try simp only [go_sem, t0, t1, t5]) <;> first | rfl | omega | trivial
    · obtain rfl : i = l.length := by omega
      have hlt1 : ¬ ((l.length : Nat) : Int) < l.length := by omega
      repeat' (first | (simp -dsimp only [↓reduceIte, go_sem, t0, t1, t5, hlt1]) | (refine arr_intro fun _ => ?_) | (refine later_intro ⟨keeps_nil, ?_⟩) | (refine later_intro ⟨keeps_refl, ?_⟩) | (refine both_ways ?_ ?_) | (rw [wrap_i64 (by omega) (by omega)]) | (refine guardV_split (fun h => ?_) (fun h => ?_) <;> (try rw [h]) <;> (try simp at h) <;> (try (exfalso; omega))))
      exact hK
theorem strips_strs : ∀ {l : List (List UInt8)}, AV.strips (l.map AV.str) = l.map AV.str
  | [] => rfl
  | a :: l => by simp only [List.map_cons, AV.strips, AV.strip, strips_strs]
theorem noRefs_strs : ∀ {l : List (List UInt8)}, AV.noRefs (l.map AV.str) = true
  | [] => rfl
  | a :: l => by simp only [List.map_cons, AV.noRefs, AV.noRef, noRefs_strs, Bool.and_self]
theorem strip_strs {t : Tk} {l : List (List UInt8)} : ∃ t', (AV.slice t (l.map AV.str)).strip = .slice t' (l.map AV.str) := by
  have h := strips_strs (l := l)
  generalize l.map AV.str = xs at *
  unfold AV.strip
  split
  · rename_i e; cases e; exact ⟨_, rfl⟩
  · rename_i e; cases e; exact ⟨_, by rw [h]⟩
  all_goals simp_all
theorem commits32_d {ps : List Post} {ta : Tk} {σ : AST} {K : AV → AST → Prop} (hl : ps.length ≤ 1000) (hK : ∀ t, K (.slice t (((vws ps ps.length).map (·.1)).map AV.str)) σ) : TCalls Tryz.prog 10 [.slice ta (ps.map postV)] σ K := by
  refine TCalls.drop ?_
  refine commits32_c (ps := ps) hl fun s tv hx => ?_
  have e : ((vws ps ps.length).map fun x => AV.str x.1) = ((vws ps ps.length).map (·.1)).map AV.str := by rw [List.map_map]; rfl
  rw [e]
  obtain ⟨t', ht⟩ := strip_strs (t := tv) (l := (vws ps ps.length).map (·.1))
  exact ⟨hx, by simp only [AV.noRef, noRefs_strs], by rw [ht]; exact hK t'⟩
theorem fits32_d {ps : List Post} {ta : Tk} {σ : AST} {K : AV → AST → Prop} (hl : ps.length ≤ 1000) (hK : ∀ a b, Go.Aff.L09.ForkP ((vws ps ps.length).map (·.1)) a b → K (.bool (decide (a < 0))) σ) : TCalls Tryz.prog 11 [.slice ta (ps.map postV)] σ K := by
  refine TCalls.drop ?_
  exact fits32_c (ps := ps) hl fun s a b hx hF => ⟨hx, rfl, by simpa only [AV.strip] using hK a b hF⟩
theorem _root_.Go.Aff.L10.RepP.uniq {l : List Post} {F T F' T' : Int} (h : RepP l F T) (h' : RepP l F' T') : F' = F ∧ T' = T := by
  by_cases h0 : 0 ≤ F
  · exact h.more (m := []) h0 (by rw [List.append_nil]; exact h')
  · have e1 := h.neg (by omega)
    have e2 := h'.neg (h'.fits.2 (h.fits.1 (by omega)))
    omega
theorem auditReads_c {ps : List Post} {ta : Tk} {σ : AST} {K : AV → AST → Prop} (hK : K (.bool true) σ) : TCalls Tryz.prog 3 [.slice ta (ps.map postV)] σ K := by
  refine TCalls.drop ?_
  have fin : ∀ s', Ext σ s' → Ext σ s' ∧ (AV.bool true).noRef = true ∧ K (AV.bool true).strip σ := fun s' hx => ⟨hx, rfl, by simpa [AV.strip] using hK⟩
  refine tcalls_walk Tryz.f3 _ [.tmp 2] Tryz.func3 rfl rfl rfl mixed (Nat.le_of_ble_eq_true rfl) rfl fun hlen => ?_
  repeat' (first | (simp -dsimp only [↓reduceIte, go_sem]) | (refine arr_intro fun _ => ?_) | (refine later_intro ⟨keeps_nil, ?_⟩) | (refine later_intro ⟨keeps_refl, ?_⟩) | (refine both_ways ?_ ?_) | (rw [wrap_i64 (by omega) (by omega)]) | (refine guardV_split (fun h => ?_) (fun h => ?_) <;> (try rw [h]) <;> (try simp at h) <;> (try (exfalso; omega))))
  refine few_c fun s1 tk hx1 hn hc => ?_
  have hl := fewL_len (l := ps)
  generalize fewL ps = l at *
  clear hn hc
  repeat' (first | (simp -dsimp only [↓reduceIte, go_sem]) | (refine arr_intro fun _ => ?_) | (refine later_intro ⟨keeps_nil, ?_⟩) | (refine later_intro ⟨keeps_refl, ?_⟩) | (refine both_ways ?_ ?_) | (rw [wrap_i64 (by omega) (by omega)]) | (refine guardV_split (fun h => ?_) (fun h => ?_) <;> (try rw [h]) <;> (try simp at h) <;> (try (exfalso; omega))))
  refine refCommits_c (by omega) fun s2 tv ta2 hx2 => ?_
  have e : ((vws l l.length).map fun x => AV.str x.1) = ((vws l l.length).map (·.1)).map AV.str := by rw [List.map_map]; rfl
  have hvl : ((vws l l.length).map (·.1)).length ≤ 1000 := by rw [List.length_map]; have := vws_len (l := l) (i := l.length); omega
  repeat' (first | (simp -dsimp only [↓reduceIte, go_sem, e]) | (refine arr_intro fun _ => ?_) | (refine later_intro ⟨keeps_nil, ?_⟩) | (refine later_intro ⟨keeps_refl, ?_⟩) | (refine both_ways ?_ ?_) | (rw [wrap_i64 (by omega) (by omega)]) | (refine guardV_split (fun h => ?_) (fun h => ?_) <;> (try rw [h]) <;> (try simp at h) <;> (try (exfalso; omega))))
  refine refRead_c (by omega) fun F T hR => ?_
  have hx3 := Ext.app s2 [.cells (rptV (rptOf l F T))]
  have hr : (s2.app [.cells (rptV (rptOf l F T))]).objs[s2.objs.length]? = some (.cells (rptV (rptOf l F T))) := by rw [objs_app0]; rfl
  have cr := cellAt_known hr
  repeat' (first | (simp -dsimp only [↓reduceIte, go_sem, cr]) | (refine arr_intro fun _ => ?_) | (refine later_intro ⟨keeps_nil, ?_⟩) | (refine later_intro ⟨keeps_refl, ?_⟩) | (refine both_ways ?_ ?_) | (rw [wrap_i64 (by omega) (by omega)]) | (refine guardV_split (fun h => ?_) (fun h => ?_) <;> (try rw [h]) <;> (try simp at h) <;> (try (exfalso; omega))) | (with_reducible refine awp_drawS (id := 4) [0, 1, 2, 4, 3, 5, 6, 7, 8, 10, 9, 11, 12, 13, 14, 16, 17, 18, 15, 19, 20, 21] (by kernel_rfl) ?_) | ((refine awake_c ?_)))
  refine read_c (by omega) fun F2 T2 hR2 => ?_
  obtain ⟨rfl, rfl⟩ := hR.uniq hR2
  clear hR2
  repeat' (first | (simp -dsimp only [↓reduceIte, go_sem, cr]) | (refine arr_intro fun _ => ?_) | (refine later_intro ⟨keeps_nil, ?_⟩) | (refine later_intro ⟨keeps_refl, ?_⟩) | (refine both_ways ?_ ?_) | (rw [wrap_i64 (by omega) (by omega)]) | (refine guardV_split (fun h => ?_) (fun h => ?_) <;> (try rw [h]) <;> (try simp at h) <;> (try (exfalso; omega))) | (refine bin_rptS ?_))
  refine commits32_d (ps := l) (by omega) fun t4 => ?_
  repeat' (first | (simp -dsimp only [↓reduceIte, go_sem, cr]) | (refine arr_intro fun _ => ?_) | (refine later_intro ⟨keeps_nil, ?_⟩) | (refine later_intro ⟨keeps_refl, ?_⟩) | (refine both_ways ?_ ?_) | (rw [wrap_i64 (by omega) (by omega)]) | (refine guardV_split (fun h => ?_) (fun h => ?_) <;> (try rw [h]) <;> (try simp at h) <;> (try (exfalso; omega))) | ((refine refSameT_c hvl ?_)))
  refine fits32_d (ps := l) (by omega) fun a b hF => ?_
  have hd : decide (a < 0) = decide (F2 < 0) := by
    rw [vws_views] at hF
    have h1 := fork_fits hF
    have h2 := hR.fits
    exact decide_eq_decide.2 (h1.trans h2.symm)
  have hq : (decide (F2 < 0) == decide (F2 < 0)) = true := by simp
  have hf1 : (rptOf l F2 T2).first = F2 := rfl
  repeat' (first | (simp -dsimp only [↓reduceIte, go_sem, cr, hd, hf1, hq]) | (refine arr_intro fun _ => ?_) | (refine later_intro ⟨keeps_nil, ?_⟩) | (refine later_intro ⟨keeps_refl, ?_⟩) | (refine both_ways ?_ ?_) | (rw [wrap_i64 (by omega) (by omega)]) | (refine guardV_split (fun h => ?_) (fun h => ?_) <;> (try rw [h]) <;> (try simp at h) <;> (try (exfalso; omega))))
  exact fin _ (hx1.trans (hx2.trans hx3))
end Go.Aff.L10

/- Layer 32: what an argument's shape says of posts. -/
namespace Go.Aff.L10
open Go.Proofs Go.Aff Go.Aff.L01 Classical
set_option linter.unusedVariables false
set_option maxRecDepth 20000
theorem sh_post {n : Nat} {v : AV} (h : ShT Tryz.prog (n + 6) 38 v) : ∃ y : Post, v = postV y ∧ True := by
  obtain ⟨ps, rfl, hps⟩ := sh_struct (n := n + 5) Tryz.underlying38 h
  obtain ⟨p0, r, rfl, h0, hps⟩ := shTs_cons (n := n + 4) hps
  obtain ⟨p1, r, rfl, h1, hps⟩ := shTs_cons (n := n + 3) hps
  obtain ⟨p2, r, rfl, h2, hps⟩ := shTs_cons (n := n + 2) hps
  obtain rfl := shTs_nil hps
  obtain ⟨a, rfl, _, _⟩ := sh_int (t := 3) Tryz.underlying3 h0
  obtain ⟨b, rfl, _, _⟩ := sh_int (t := 3) Tryz.underlying3 h1
  obtain ⟨c, rfl⟩ := sh_str (t := 9) Tryz.underlying9 h2
  exact ⟨⟨a, b, c⟩, rfl, trivial⟩
theorem sh_posts {n : Nat} {v : AV} (h : ShT Tryz.prog (n + 7) 22 v) : ∃ (tk : Tk) (l : List Post), v = .slice tk (l.map postV) := by
  obtain ⟨tk, xs, rfl, e⟩ := sh_slice (n := n + 6) (t := 22) Tryz.underlying22 h
  obtain ⟨l, rfl, _⟩ := map_of (f := postV) (p := fun _ => True) (fun x hx => sh_post (n := n) (e x hx))
  exact ⟨tk, l, rfl⟩
end Go.Aff.L10

