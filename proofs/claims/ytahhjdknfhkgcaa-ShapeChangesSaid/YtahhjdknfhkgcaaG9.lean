import Derived.Test.YtahhjdknfhkgcaaG8
import Derived.Test.YtahhjdknfhkgcaaG7

set_option linter.unusedSimpArgs false
set_option linter.unusedVariables false

namespace Go.Aff.L21
open Go.Proofs Go.Aff Go.Aff.L01 Classical
set_option maxRecDepth 20000
attribute [local go_sem] push_app app_app length_app cellAt_app cellAt_app0 set_app set_app0 objs_app objs_app0 List.cons_append List.nil_append List.length_cons List.length_nil List.getElem?_cons_zero List.getElem?_cons_succ List.set_cons_zero List.set_cons_succ
attribute [-go_sem] cellAt_new
attribute [local go_sem] Try.underlying9 fits29 Try.underlying43 fits44 Try.underlying50 p46_0 p46_1 p46_2 p46_3 p46_4 p46_5 Try.underlying84
attribute [local go_sem] fits3 fits9

attribute [local go_sem ↓] blockQ_exit2
structure TLeaf where
  x : Leaf
  t1 : Tk
  t2 : Tk
  t3 : Tk
def leafV (y : TLeaf) : AV := .agg [.int .i64 y.x.num, .int .i64 y.x.kind, .int .i64 y.x.size, .slice y.t1 (y.x.blocks.map (AV.int .i64)), .slice y.t2 (y.x.names.map AV.str), .slice y.t3 (y.x.nodes.map (AV.int .i64))]

theorem right_c {y : TLeaf} {σ : AST} {K : AV → AST → Prop} (hK : K (.bool (decide y.x.Right)) σ) : TCalls Try.prog 112 [leafV y] σ K := by
  refine TCalls.drop ?_
  obtain ⟨x, q1, q2, q3⟩ := y
  unfold leafV
  dsimp only at hK ⊢
  refine tcalls_walk Try.f112 _ [.tmp 2] Try.func112 rfl rfl rfl mixed (Nat.le_of_ble_eq_true rfl) rfl fun hlen => ?_
  have bad : ∀ s, Ext σ s → ¬ x.Right → Ext σ s ∧ (AV.bool false).noRef = true ∧ K (AV.bool false).strip σ := fun s hx h => by
    rw [decide_eq_false h] at hK; exact ⟨hx, rfl, hK⟩
  simp -dsimp only [↓reduceIte, go_sem]
  refine guardV_split (fun h1 => ?_) (fun h1 => ?_) <;> (try rw [h1])
  · have h1 : 1 ≤ x.num := by simp at h1; omega
    simp -dsimp only [↓reduceIte, go_sem]
    refine boolW_split (fun h2 => ?_) (fun h2 => ?_)
    · have h2 : ¬ x.num ≤ 32 := by simp at h2; omega
      simp -dsimp only [↓reduceIte, go_sem]
      exact bad _ (Ext.app _ _) (fun h => h2 h.2.1)
    · have h2 : x.num ≤ 32 := by simp at h2; omega
      simp -dsimp only [↓reduceIte, go_sem]
      refine boolW_split (fun h3 => ?_) (fun h3 => ?_)
      · have h3 : x.kind = 2 := by simpa using h3
        have hR : x.Right ↔ x.File := ⟨fun h => by rcases h.2.2 with h | h; exact h.2; have := h.1; omega, fun h => ⟨h1, h2, .inl ⟨h3, h⟩⟩⟩
        simp -dsimp only [↓reduceIte, go_sem]
        refine arr_intro fun _ => ?_
        simp only [List.length_map]
        simp -dsimp only [↓reduceIte, go_sem]
        have hbl : x.blocks.length ≤ 9223372036854775807 := by
          have := ‹(x.blocks.map (AV.int .i64)).length ≤ maxL›
          simpa [maxL] using this
        generalize hV : AV.agg [.int .i64 x.num, .int .i64 x.kind, .int .i64 x.size, .slice q1 (x.blocks.map (AV.int .i64)), .slice q2 (x.names.map AV.str), .slice q3 (x.nodes.map (AV.int .i64))] = V
        refine awp_rounds (fun (i : Nat) τ s' => s' = σ.app [.cells V] ∧ i ≤ x.blocks.length ∧ (∀ j c, j < i → x.blocks[j]? = some c → 0 ≤ c ∧ c ≤ 1099511627776) ∧ τ 1 = .ptr (some (σ.objs.length, [])) ∧ τ 22 = .slice q1 (x.blocks.map (AV.int .i64)) ∧ τ 23 = .int .i64 x.blocks.length ∧ τ 24 = .int .i64 i) (fun i => x.blocks.length - i) 0 ?_ ?_
        · refine ⟨rfl, by omega, fun j c h => by omega, ?_, ?_, ?_, ?_⟩ <;> (try simp only [go_sem]) <;> rfl
        · rintro i τ s' ⟨rfl, hi, hall, u1, u22, u23, u24⟩
          subst hV
          simp -dsimp only [↓reduceIte, go_sem, u1, u22, u23, u24]
          refine boolW_split (fun hb => ?_) (fun hb => ?_)
          · have hb : i < x.blocks.length := by simp at hb; omega
            obtain ⟨n, hn⟩ := get_lt hb
            have hmem : n ∈ x.blocks := List.mem_iff_getElem?.2 ⟨i, hn⟩
            simp -dsimp only [↓reduceIte, go_sem, u1, u22, u23, u24]
            refine nth_get hn ?_
            simp -dsimp only [↓reduceIte, go_sem, u1, u22, u23, u24]
            refine guardV_split (fun c1 => ?_) (fun c1 => ?_) <;> (try rw [c1])
            · have c1 : 0 ≤ n := by simp at c1; omega
              simp -dsimp only [↓reduceIte, go_sem, u1, u22, u23, u24]
              refine boolW_split (fun c2 => ?_) (fun c2 => ?_)
              · have c2 : ¬ n ≤ 1099511627776 := by simp at c2; omega
                simp -dsimp only [↓reduceIte, go_sem, u1, u22, u23, u24]
                exact bad _ (Ext.app _ _) (fun h => c2 ((hR.1 h).1 n hmem).2)
              · have c2 : n ≤ 1099511627776 := by simp at c2; omega
                simp -dsimp only [↓reduceIte, go_sem, u1, u22, u23, u24]
                rw [wrap_i64 (by omega) (by omega)]
                refine later_intro ⟨i + 1, by omega, rfl, by omega, ?_, ?_, ?_, ?_, ?_⟩ <;> (try simp only [go_sem, u1, u22, u23, u24]) <;> (try rfl)
                intro j c hj hc
                by_cases hji : j < i
                · exact hall j c hji hc
                · obtain rfl : j = i := by omega
                  rw [hn] at hc; cases hc; exact ⟨c1, c2⟩
            · have c1 : ¬ 0 ≤ n := by simp at c1; omega
              simp -dsimp only [↓reduceIte, go_sem, u1, u22, u23, u24]
              exact bad _ (Ext.app _ _) (fun h => c1 ((hR.1 h).1 n hmem).1)
          · have hb : i = x.blocks.length := by simp at hb; omega
            have ha : AllIn 0 1099511627776 x.blocks := fun n hn => by
              obtain ⟨j, hj⟩ := List.mem_iff_getElem?.1 hn
              exact hall j n (by have := (List.getElem?_eq_some_iff.1 hj).1; omega) hj
            simp -dsimp only [↓reduceIte, go_sem, u1, u22, u23, u24]
            refine awp_drawS (id := 11) [0, 1, 2, 3, 4, 5, 6, 7, 8, 9, 10, 11, 12, 13, 14, 15, 16, 17, 18, 19, 20, 21, 22, 23, 24, 25, 26, 27] (by kernel_rfl) ?_
            simp -dsimp only [↓reduceIte, go_sem, u1, u22, u23, u24]
            refine guardV_split (fun c1 => ?_) (fun c1 => ?_) <;> (try rw [c1])
            · have c1 : 0 ≤ x.size := by simp at c1; omega
              simp -dsimp only [↓reduceIte, go_sem, u1, u22, u23, u24]
              refine guardV_split (fun c2 => ?_) (fun c2 => ?_) <;> (try rw [c2])
              · have c2 : x.size ≤ 512 := by simp at c2; omega
                obtain ⟨sz, hsz⟩ : ∃ sz : Nat, x.size = sz := ⟨x.size.toNat, by omega⟩
                simp -dsimp only [↓reduceIte, go_sem, u1, u22, u23, u24]
                refine arr_intro fun _ => ?_
                simp only [List.length_map]
                rw [hsz]
                simp -dsimp only [↓reduceIte, go_sem, u1, u22, u23, u24]
                refine many_c (by omega) ?_
                simp -dsimp only [↓reduceIte, go_sem, u1, u22, u23, u24]
                refine guardV_split (fun c3 => ?_) (fun c3 => ?_) <;> (try rw [c3])
                · have c3 : x.blocks.length = (sz + 31) / 32 := by simp at c3; omega
                  simp -dsimp only [↓reduceIte, go_sem, u1, u22, u23, u24]
                  refine arr_intro fun _ => ?_
                  simp only [List.length_map]
                  simp -dsimp only [↓reduceIte, go_sem, u1, u22, u23, u24]
                  refine arr_intro fun _ => ?_
                  simp only [List.length_map]
                  simp -dsimp only [↓reduceIte, go_sem, u1, u22, u23, u24]
                  have hnl : x.names.length ≤ 9223372036854775807 := by
                    have := ‹(x.names.map AV.str).length ≤ maxL›
                    simpa [maxL] using this
                  have hdl : x.nodes.length ≤ 9223372036854775807 := by
                    have := ‹(x.nodes.map (AV.int .i64)).length ≤ maxL›
                    simpa [maxL] using this
                  refine ⟨Ext.app _ _, rfl, ?_⟩
                  simp only [AV.strip]
                  have e : decide x.Right = (IntKind.i64.wrap ((x.names.length : Int) + (x.nodes.length : Int)) == 0) := by
                    rw [Bool.eq_iff_iff]
                    simp only [decide_eq_true_eq, beq_iff_eq]
                    rw [hR, IntKind.wrap_i64]
                    constructor
                    · intro h
                      rw [h.2.2.2.2.1, h.2.2.2.2.2]; rfl
                    · intro h
                      have h5 : x.names.length = 0 ∧ x.nodes.length = 0 := by omega
                      exact ⟨ha, c1, c2, by omega, List.length_eq_zero_iff.1 h5.1, List.length_eq_zero_iff.1 h5.2⟩
                  rw [e] at hK
                  exact hK
                · have c3 : x.blocks.length ≠ (sz + 31) / 32 := by simp at c3; omega
                  simp -dsimp only [↓reduceIte, go_sem, u1, u22, u23, u24]
                  exact bad _ (Ext.app _ _) (fun h => c3 (by have := (hR.1 h).2.2.2.1; omega))
              · have c2 : ¬ x.size ≤ 512 := by simp at c2; omega
                simp -dsimp only [↓reduceIte, go_sem, u1, u22, u23, u24]
                exact bad _ (Ext.app _ _) (fun h => c2 (hR.1 h).2.2.1)
            · have c1 : ¬ 0 ≤ x.size := by simp at c1; omega
              simp -dsimp only [↓reduceIte, go_sem, u1, u22, u23, u24]
              exact bad _ (Ext.app _ _) (fun h => c1 (hR.1 h).2.1)
      · have h3 : x.kind ≠ 2 := by simpa using h3
        simp -dsimp only [↓reduceIte, go_sem]
        refine boolW_split (fun h4 => ?_) (fun h4 => ?_)
        · have h4 : x.kind = 1 := by simpa using h4
          have hR : x.Right ↔ x.Dir := ⟨fun h => by rcases h.2.2 with h | h; (have := h.1; omega); exact h.2, fun h => ⟨h1, h2, .inr ⟨h4, h⟩⟩⟩
          simp -dsimp only [↓reduceIte, go_sem]
          refine arr_intro fun _ => ?_
          simp only [List.length_map]
          simp -dsimp only [↓reduceIte, go_sem]
          have hnl : x.names.length ≤ 9223372036854775807 := by
            have := ‹(x.names.map AV.str).length ≤ maxL›
            simpa [maxL] using this
          have badn : ∀ s (i : Nat) t, Ext σ s → x.names[i]? = some t → ¬ (nameB t = true ∧ ∀ t', 0 < i → x.names[i - 1]? = some t' → leqS t t' = false) → Ext σ s ∧ (AV.bool false).noRef = true ∧ K (AV.bool false).strip σ := fun s i t hx ht h => bad s hx (fun hr => h ((hR.1 hr).1 i t ht))
          generalize hV : AV.agg [.int .i64 x.num, .int .i64 x.kind, .int .i64 x.size, .slice q1 (x.blocks.map (AV.int .i64)), .slice q2 (x.names.map AV.str), .slice q3 (x.nodes.map (AV.int .i64))] = V
          refine awp_rounds (fun (i : Nat) τ s' => s' = σ.app [.cells V] ∧ i ≤ x.names.length ∧ (∀ (j : Nat) t, j < i → x.names[j]? = some t → nameB t = true ∧ ∀ t', 0 < j → x.names[j - 1]? = some t' → leqS t t' = false) ∧ τ 1 = .ptr (some (σ.objs.length, [])) ∧ τ 65 = .slice q2 (x.names.map AV.str) ∧ τ 66 = .int .i64 x.names.length ∧ τ 67 = .int .i64 i) (fun i => x.names.length - i) 0 ?_ ?_
          · refine ⟨rfl, by omega, fun j c h => by omega, ?_, ?_, ?_, ?_⟩ <;> (try simp only [go_sem]) <;> rfl
          · rintro i τ s' ⟨rfl, hi, hall, u1, u65, u66, u67⟩
            subst hV
            simp -dsimp only [↓reduceIte, go_sem, u1, u65, u66, u67]
            refine boolW_split (fun hb => ?_) (fun hb => ?_)
            · have hb : i < x.names.length := by simp at hb; omega
              obtain ⟨t, ht⟩ := get_lt hb
              have step : (nameB t = true ∧ ∀ t', 0 < i → x.names[i - 1]? = some t' → leqS t t' = false) → ∀ (j : Nat) t, j < i + 1 → x.names[j]? = some t → nameB t = true ∧ ∀ t', 0 < j → x.names[j - 1]? = some t' → leqS t t' = false := fun h j t2 hj ht2 => by
                by_cases hji : j < i
                · exact hall j t2 hji ht2
                · obtain rfl : j = i := by omega
                  rw [ht] at ht2; cases ht2; exact h
              simp -dsimp only [↓reduceIte, go_sem, u1, u65, u66, u67]
              refine nth_get ht ?_
              simp -dsimp only [↓reduceIte, go_sem, u1, u65, u66, u67]
              refine name_c ?_
              simp -dsimp only [↓reduceIte, go_sem, u1, u65, u66, u67]
              refine guardV_split (fun c1 => ?_) (fun c1 => ?_) <;> (try rw [c1])
              · have c1 : nameB t = true := by simpa using c1
                simp -dsimp only [↓reduceIte, go_sem, u1, u65, u66, u67]
                refine guardV_split (fun c2 => ?_) (fun c2 => ?_) <;> (try rw [c2])
                · have c2 : 0 < i := by simp at c2; omega
                  obtain ⟨t', ht'⟩ := get_lt (l := x.names) (i := i - 1) (by omega)
                  simp -dsimp only [↓reduceIte, go_sem, u1, u65, u66, u67]
                  rw [wrap_i64 (n := (i : Int) - 1) (by omega) (by omega), show (i : Int) - 1 = ((i - 1 : Nat) : Int) by omega]
                  refine nth_get ht' ?_
                  simp -dsimp only [↓reduceIte, go_sem, u1, u65, u66, u67]
                  refine boolW_split (fun c3 => ?_) (fun c3 => ?_)
                  · have c3 : leqS t t' = true := c3
                    simp -dsimp only [↓reduceIte, go_sem, u1, u65, u66, u67]
                    exact badn _ i t (Ext.app _ _) ht (fun h => by have := h.2 t' c2 ht'; rw [c3] at this; cases this)
                  · have c3 : leqS t t' = false := c3
                    simp -dsimp only [↓reduceIte, go_sem, u1, u65, u66, u67]
                    rw [wrap_i64 (by omega) (by omega)]
                    refine later_intro ⟨i + 1, by omega, rfl, by omega, step ⟨c1, fun t2 _ h2 => by rw [ht'] at h2; cases h2; exact c3⟩, ?_, ?_, ?_, ?_⟩ <;> (try simp only [go_sem, u1, u65, u66, u67]) <;> rfl
                · have c2 : i = 0 := by simp at c2; omega
                  simp -dsimp only [↓reduceIte, go_sem, u1, u65, u66, u67]
                  rw [wrap_i64 (by omega) (by omega)]
                  refine later_intro ⟨i + 1, by omega, rfl, by omega, step ⟨c1, fun t2 h _ => by omega⟩, ?_, ?_, ?_, ?_⟩ <;> (try simp only [go_sem, u1, u65, u66, u67]) <;> rfl
              · have c1 : nameB t = false := by simpa using c1
                simp -dsimp only [↓reduceIte, go_sem, u1, u65, u66, u67]
                exact badn _ i t (Ext.app _ _) ht (fun h => by have := h.1; rw [c1] at this; cases this)
            · have hb : i = x.names.length := by simp at hb; omega
              have hnames : NamesOk x.names := fun j t hj => hall j t (by have := (List.getElem?_eq_some_iff.1 hj).1; omega) hj
              simp -dsimp only [↓reduceIte, go_sem, u1, u65, u66, u67]
              refine arr_intro fun _ => ?_
              simp only [List.length_map]
              simp -dsimp only [↓reduceIte, go_sem, u1, u65, u66, u67]
              have hdl : x.nodes.length ≤ 9223372036854775807 := by
                have := ‹(x.nodes.map (AV.int .i64)).length ≤ maxL›
                simpa [maxL] using this
              generalize hV : AV.agg [.int .i64 x.num, .int .i64 x.kind, .int .i64 x.size, .slice q1 (x.blocks.map (AV.int .i64)), .slice q2 (x.names.map AV.str), .slice q3 (x.nodes.map (AV.int .i64))] = V
              refine awp_rounds (fun (i : Nat) τ s' => s' = σ.app [.cells V] ∧ i ≤ x.nodes.length ∧ (∀ j c, j < i → x.nodes[j]? = some c → 1 ≤ c ∧ c ≤ 32) ∧ τ 1 = .ptr (some (σ.objs.length, [])) ∧ τ 91 = .slice q3 (x.nodes.map (AV.int .i64)) ∧ τ 92 = .int .i64 x.nodes.length ∧ τ 93 = .int .i64 i) (fun i => x.nodes.length - i) 0 ?_ ?_
              · refine ⟨rfl, by omega, fun j c h => by omega, ?_, ?_, ?_, ?_⟩ <;> (try simp only [go_sem, u1]) <;> rfl
              · rintro i' τ' s'' ⟨rfl, hi', hall', v1, v91, v92, v93⟩
                subst hV
                simp -dsimp only [↓reduceIte, go_sem, v1, v91, v92, v93]
                refine boolW_split (fun hb2 => ?_) (fun hb2 => ?_)
                · have hb2 : i' < x.nodes.length := by simp at hb2; omega
                  obtain ⟨n, hn⟩ := get_lt hb2
                  have hmem : n ∈ x.nodes := List.mem_iff_getElem?.2 ⟨i', hn⟩
                  simp -dsimp only [↓reduceIte, go_sem, v1, v91, v92, v93]
                  refine nth_get hn ?_
                  simp -dsimp only [↓reduceIte, go_sem, v1, v91, v92, v93]
                  refine guardV_split (fun c1 => ?_) (fun c1 => ?_) <;> (try rw [c1])
                  · have c1 : 1 ≤ n := by simp at c1; omega
                    simp -dsimp only [↓reduceIte, go_sem, v1, v91, v92, v93]
                    refine boolW_split (fun c2 => ?_) (fun c2 => ?_)
                    · have c2 : ¬ n ≤ 32 := by simp at c2; omega
                      simp -dsimp only [↓reduceIte, go_sem, v1, v91, v92, v93]
                      exact bad _ (Ext.app _ _) (fun h => c2 ((hR.1 h).2.1 n hmem).2)
                    · have c2 : n ≤ 32 := by simp at c2; omega
                      simp -dsimp only [↓reduceIte, go_sem, v1, v91, v92, v93]
                      rw [wrap_i64 (by omega) (by omega)]
                      refine later_intro ⟨i' + 1, by omega, rfl, by omega, ?_, ?_, ?_, ?_, ?_⟩ <;> (try simp only [go_sem, v1, v91, v92, v93]) <;> (try rfl)
                      intro j c hj hc
                      by_cases hji : j < i'
                      · exact hall' j c hji hc
                      · obtain rfl : j = i' := by omega
                        rw [hn] at hc; cases hc; exact ⟨c1, c2⟩
                  · have c1 : ¬ 1 ≤ n := by simp at c1; omega
                    simp -dsimp only [↓reduceIte, go_sem, v1, v91, v92, v93]
                    exact bad _ (Ext.app _ _) (fun h => c1 ((hR.1 h).2.1 n hmem).1)
                · have hb2 : i' = x.nodes.length := by simp at hb2; omega
                  have ha : AllIn 1 32 x.nodes := fun n hn => by
                    obtain ⟨j, hj⟩ := List.mem_iff_getElem?.1 hn
                    exact hall' j n (by have := (List.getElem?_eq_some_iff.1 hj).1; omega) hj
                  simp -dsimp only [↓reduceIte, go_sem, v1, v91, v92, v93]
                  refine guardV_split (fun c1 => ?_) (fun c1 => ?_) <;> (try rw [c1])
                  · have c1 : x.size = 0 := by simpa using c1
                    simp -dsimp only [↓reduceIte, go_sem, v1, v91, v92, v93]
                    refine arr_intro fun _ => ?_
                    simp only [List.length_map]
                    simp -dsimp only [↓reduceIte, go_sem, v1, v91, v92, v93]
                    refine guardV_split (fun c2 => ?_) (fun c2 => ?_) <;> (try rw [c2])
                    · have c2 : x.blocks = [] := by
                        have : x.blocks.length = 0 := by simp at c2; simp; omega
                        exact List.length_eq_zero_iff.1 this
                      simp -dsimp only [↓reduceIte, go_sem, v1, v91, v92, v93]
                      refine arr_intro fun _ => ?_
                      simp only [List.length_map]
                      simp -dsimp only [↓reduceIte, go_sem, v1, v91, v92, v93]
                      refine arr_intro fun _ => ?_
                      simp only [List.length_map]
                      simp -dsimp only [↓reduceIte, go_sem, v1, v91, v92, v93]
                      refine ⟨Ext.app _ _, rfl, ?_⟩
                      simp only [AV.strip]
                      have e : decide x.Right = ((x.names.length : Int) == (x.nodes.length : Int)) := by
                        rw [Bool.eq_iff_iff]
                        simp only [decide_eq_true_eq, beq_iff_eq]
                        rw [hR]
                        constructor
                        · intro h; rw [h.2.2.2.2]
                        · intro h; exact ⟨hnames, ha, c1, c2, by omega⟩
                      rw [e] at hK
                      exact hK
                    · have c2 : x.blocks ≠ [] := by rintro h; rw [h] at c2; simp at c2
                      simp -dsimp only [↓reduceIte, go_sem, v1, v91, v92, v93]
                      exact bad _ (Ext.app _ _) (fun h => c2 (hR.1 h).2.2.2.1)
                  · have c1 : x.size ≠ 0 := by simpa using c1
                    simp -dsimp only [↓reduceIte, go_sem, v1, v91, v92, v93]
                    exact bad _ (Ext.app _ _) (fun h => c1 (hR.1 h).2.2.1)
        · have h4 : x.kind ≠ 1 := by simpa using h4
          simp -dsimp only [↓reduceIte, go_sem]
          exact bad _ (Ext.app _ _) (fun h => by rcases h.2.2 with h | h; exact h3 h.1; exact h4 h.1)
  · have h1 : ¬ 1 ≤ x.num := by simp at h1; omega
    simp -dsimp only [↓reduceIte, go_sem]
    exact bad _ (Ext.app _ _) (fun h => h1 h.1)
end Go.Aff.L21

namespace Go.Aff.L21
open Go.Proofs Go.Aff Go.Aff.L01 Classical
set_option maxRecDepth 20000
attribute [local go_sem] push_app app_app length_app cellAt_app cellAt_app0 set_app set_app0 objs_app objs_app0 List.cons_append List.nil_append List.length_cons List.length_nil List.getElem?_cons_zero List.getElem?_cons_succ List.set_cons_zero List.set_cons_succ
attribute [-go_sem] cellAt_new
attribute [local go_sem] Try.underlying9 fits29 Try.underlying43 fits44 Try.underlying50 p46_0 p46_1 p46_2 p46_3 p46_4 p46_5 Try.underlying84
attribute [local go_sem] fits3 fits9

attribute [local go_sem ↓] blockQ_exit2
theorem Right_c {y : TLeaf} {σ : AST} {K : AV → AST → Prop} (hK : K (.bool (decide y.x.Right)) σ) : TCalls Try.prog 108 [leafV y] σ K := by
  refine TCalls.drop ?_
  obtain ⟨x, q1, q2, q3⟩ := y
  unfold leafV
  dsimp only at hK ⊢
  refine tcalls_walk Try.f108 _ [.tmp 2] Try.func108 rfl rfl rfl mixed (Nat.le_of_ble_eq_true rfl) rfl fun hlen => ?_
  have bad : ∀ s, Ext σ s → ¬ x.Right → Ext σ s ∧ (AV.bool false).noRef = true ∧ K (AV.bool false).strip σ := fun s hx h => by
    rw [decide_eq_false h] at hK; exact ⟨hx, rfl, hK⟩
  have hsz : x.Right → 0 ≤ x.size ∧ x.size ≤ 512 := fun h => by
    rcases h.2.2 with h | h
    · exact ⟨h.2.2.1, h.2.2.2.1⟩
    · have := h.2.2.2.1; omega
  simp -dsimp only [↓reduceIte, go_sem]
  refine guardV_split (fun h1 => ?_) (fun h1 => ?_) <;> (try rw [h1])
  · have h1 : 1 ≤ x.num := by simp at h1; omega
    simp -dsimp only [↓reduceIte, go_sem]
    refine guardV_split (fun h2 => ?_) (fun h2 => ?_) <;> (try rw [h2])
    · have h2 : x.num ≤ 32 := by simp at h2; omega
      simp -dsimp only [↓reduceIte, go_sem]
      refine guardV_split (fun s1 => ?_) (fun s1 => ?_) <;> (try rw [s1])
      · have s1 : 0 ≤ x.size := by simp at s1; omega
        simp -dsimp only [↓reduceIte, go_sem]
        refine boolW_split (fun s2 => ?_) (fun s2 => ?_)
        · have s2 : ¬ x.size ≤ 512 := by simp at s2; omega
          simp -dsimp only [↓reduceIte, go_sem]
          exact bad _ (Ext.app _ _) (fun h => s2 (hsz h).2)
        · have s2 : x.size ≤ 512 := by simp at s2; omega
          obtain ⟨sz, hszn⟩ : ∃ sz : Nat, x.size = sz := ⟨x.size.toNat, by omega⟩
          simp -dsimp only [↓reduceIte, go_sem]
          refine boolW_split (fun h3 => ?_) (fun h3 => ?_)
          · have h3 : x.kind = 2 := by simpa using h3
            have hR : x.Right ↔ x.File := ⟨fun h => by rcases h.2.2 with h | h; exact h.2; have := h.1; omega, fun h => ⟨h1, h2, .inl ⟨h3, h⟩⟩⟩
            simp -dsimp only [↓reduceIte, go_sem]
            refine arr_intro fun _ => ?_
            simp only [List.length_map]
            rw [hszn]
            simp -dsimp only [↓reduceIte, go_sem]
            rw [wrap_i64 (n := (sz : Int) + 31) (by omega) (by omega), show (sz : Int) + 31 = ((sz + 31 : Nat) : Int) by omega, show ((sz + 31 : Nat) : Int).tdiv 32 = (((sz + 31) / 32 : Nat) : Int) from tdiv_lit (sz + 31) 31]
            rw [wrap_i64 (n := (((sz + 31) / 32 : Nat) : Int)) (by omega) (by omega)]
            refine guardV_split (fun c1 => ?_) (fun c1 => ?_) <;> (try rw [c1])
            · have c1 : x.blocks.length = (sz + 31) / 32 := by simp at c1; omega
              simp -dsimp only [↓reduceIte, go_sem]
              refine all_c ?_
              by_cases c2 : AllIn 0 1099511627776 x.blocks
              · rw [decide_eq_true c2]
                simp -dsimp only [↓reduceIte, go_sem]
                refine arr_intro fun _ => ?_
                simp only [List.length_map]
                simp -dsimp only [↓reduceIte, go_sem]
                refine guardV_split (fun c3 => ?_) (fun c3 => ?_) <;> (try rw [c3])
                · have c3 : x.names = [] := by
                    have : x.names.length = 0 := by simp at c3; simp; omega
                    exact List.length_eq_zero_iff.1 this
                  simp -dsimp only [↓reduceIte, go_sem]
                  refine arr_intro fun _ => ?_
                  simp only [List.length_map]
                  simp -dsimp only [↓reduceIte, go_sem]
                  refine ⟨Ext.app _ _, rfl, ?_⟩
                  simp only [AV.strip]
                  have e : decide x.Right = ((x.nodes.length : Int) == 0) := by
                    rw [Bool.eq_iff_iff]
                    simp only [decide_eq_true_eq, beq_iff_eq]
                    rw [hR]
                    constructor
                    · intro h; rw [h.2.2.2.2.2]; rfl
                    · intro h; exact ⟨c2, s1, s2, by omega, c3, List.length_eq_zero_iff.1 (by omega)⟩
                  rw [e] at hK
                  exact hK
                · have c3 : x.names ≠ [] := by rintro h; rw [h] at c3; simp at c3
                  simp -dsimp only [↓reduceIte, go_sem]
                  exact bad _ (Ext.app _ _) (fun h => c3 (hR.1 h).2.2.2.2.1)
              · rw [decide_eq_false c2]
                simp -dsimp only [↓reduceIte, go_sem]
                exact bad _ (Ext.app _ _) (fun h => c2 (hR.1 h).1)
            · have c1 : x.blocks.length ≠ (sz + 31) / 32 := by simp at c1; omega
              simp -dsimp only [↓reduceIte, go_sem]
              exact bad _ (Ext.app _ _) (fun h => c1 (by have := (hR.1 h).2.2.2.1; omega))
          · have h3 : x.kind ≠ 2 := by simpa using h3
            have hR : x.Right ↔ x.kind = 1 ∧ x.Dir := ⟨fun h => by rcases h.2.2 with h | h; exact absurd h.1 h3; exact h, fun h => ⟨h1, h2, .inr h⟩⟩
            simp -dsimp only [↓reduceIte, go_sem]
            have badn : ∀ s (i : Nat) t, Ext σ s → x.names[i]? = some t → ¬ (nameB t = true ∧ ∀ t', 0 < i → x.names[i - 1]? = some t' → leqS t t' = false) → Ext σ s ∧ (AV.bool false).noRef = true ∧ K (AV.bool false).strip σ := fun s i t hx ht h => bad s hx (fun hr => h ((hR.1 hr).2.1 i t ht))
            generalize hV : AV.agg [.int .i64 x.num, .int .i64 x.kind, .int .i64 x.size, .slice q1 (x.blocks.map (AV.int .i64)), .slice q2 (x.names.map AV.str), .slice q3 (x.nodes.map (AV.int .i64))] = V
            refine awp_rounds (fun (i : Nat) τ s' => s' = σ.app [.cells V] ∧ i ≤ x.names.length ∧ (∀ (j : Nat) t, j < i → x.names[j]? = some t → nameB t = true ∧ ∀ t', 0 < j → x.names[j - 1]? = some t' → leqS t t' = false) ∧ τ 1 = .ptr (some (σ.objs.length, [])) ∧ τ 3 = .int .i64 i) (fun i => x.names.length - i) 0 ?_ ?_
            · refine ⟨rfl, by omega, fun j c h => by omega, ?_, ?_⟩ <;> (try simp only [go_sem]) <;> rfl
            · rintro i τ s' ⟨rfl, hi, hall, u1, u3⟩
              subst hV
              simp -dsimp only [↓reduceIte, go_sem, u1, u3]
              refine arr_intro fun _ => ?_
              simp only [List.length_map]
              simp -dsimp only [↓reduceIte, go_sem, u1, u3]
              have hnl : x.names.length ≤ 9223372036854775807 := by
                have := ‹(x.names.map AV.str).length ≤ maxL›
                simpa [maxL] using this
              refine boolW_split (fun hb => ?_) (fun hb => ?_)
              · have hb : i < x.names.length := by simp at hb; omega
                obtain ⟨t, ht⟩ := get_lt hb
                have step : (nameB t = true ∧ ∀ t', 0 < i → x.names[i - 1]? = some t' → leqS t t' = false) → ∀ (j : Nat) t, j < i + 1 → x.names[j]? = some t → nameB t = true ∧ ∀ t', 0 < j → x.names[j - 1]? = some t' → leqS t t' = false := fun h j t2 hj ht2 => by
                  by_cases hji : j < i
                  · exact hall j t2 hji ht2
                  · obtain rfl : j = i := by omega
                    rw [ht] at ht2; cases ht2; exact h
                refine awp_drawS (id := 8) [0, 1, 2, 3, 4, 5, 6, 7, 8, 9, 10, 11, 12, 13, 14, 15, 16, 17, 18, 19, 20, 21, 22, 23, 24] (by kernel_rfl) ?_
                simp -dsimp only [↓reduceIte, go_sem, u1, u3]
                refine nth_get ht ?_
                simp -dsimp only [↓reduceIte, go_sem, u1, u3]
                refine Name_c ?_
                simp -dsimp only [↓reduceIte, go_sem, u1, u3]
                refine guardV_split (fun c1 => ?_) (fun c1 => ?_) <;> (try rw [c1])
                · have c1 : nameB t = true := by simpa using c1
                  simp -dsimp only [↓reduceIte, go_sem, u1, u3]
                  refine guardV_split (fun c2 => ?_) (fun c2 => ?_) <;> (try rw [c2])
                  · have c2 : 0 < i := by simp at c2; omega
                    obtain ⟨t', ht'⟩ := get_lt (l := x.names) (i := i - 1) (by omega)
                    simp -dsimp only [↓reduceIte, go_sem, u1, u3]
                    refine nth_get ht ?_
                    simp -dsimp only [↓reduceIte, go_sem, u1, u3]
                    rw [wrap_i64 (n := (i : Int) - 1) (by omega) (by omega), show (i : Int) - 1 = ((i - 1 : Nat) : Int) by omega]
                    refine nth_get ht' ?_
                    simp -dsimp only [↓reduceIte, go_sem, u1, u3]
                    refine boolW_split (fun c3 => ?_) (fun c3 => ?_)
                    · have c3 : leqS t t' = true := c3
                      simp -dsimp only [↓reduceIte, go_sem, u1, u3]
                      exact badn _ i t (Ext.app _ _) ht (fun h => by have := h.2 t' c2 ht'; rw [c3] at this; cases this)
                    · have c3 : leqS t t' = false := c3
                      simp -dsimp only [↓reduceIte, go_sem, u1, u3]
                      rw [wrap_i64 (by omega) (by omega)]
                      refine later_intro ⟨i + 1, by omega, rfl, by omega, step ⟨c1, fun t2 _ h2 => by rw [ht'] at h2; cases h2; exact c3⟩, ?_, ?_⟩ <;> (try simp only [go_sem, u1, u3]) <;> rfl
                  · have c2 : i = 0 := by simp at c2; omega
                    simp -dsimp only [↓reduceIte, go_sem, u1, u3]
                    rw [wrap_i64 (by omega) (by omega)]
                    refine later_intro ⟨i + 1, by omega, rfl, by omega, step ⟨c1, fun t2 h _ => by omega⟩, ?_, ?_⟩ <;> (try simp only [go_sem, u1, u3]) <;> rfl
                · have c1 : nameB t = false := by simpa using c1
                  simp -dsimp only [↓reduceIte, go_sem, u1, u3]
                  exact badn _ i t (Ext.app _ _) ht (fun h => by have := h.1; rw [c1] at this; cases this)
              · have hb : i = x.names.length := by simp at hb; omega
                have hnames : NamesOk x.names := fun j t hj => hall j t (by have := (List.getElem?_eq_some_iff.1 hj).1; omega) hj
                simp -dsimp only [↓reduceIte, go_sem, u1, u3]
                refine guardV_split (fun c0 => ?_) (fun c0 => ?_) <;> (try rw [c0])
                · have c0 : x.kind = 1 := by simpa using c0
                  simp -dsimp only [↓reduceIte, go_sem, u1, u3]
                  refine guardV_split (fun c1 => ?_) (fun c1 => ?_) <;> (try rw [c1])
                  · have c1 : x.size = 0 := by simpa using c1
                    simp -dsimp only [↓reduceIte, go_sem, u1, u3]
                    refine arr_intro fun _ => ?_
                    simp only [List.length_map]
                    simp -dsimp only [↓reduceIte, go_sem, u1, u3]
                    refine guardV_split (fun c2 => ?_) (fun c2 => ?_) <;> (try rw [c2])
                    · have c2 : x.blocks = [] := by
                        have : x.blocks.length = 0 := by simp at c2; simp; omega
                        exact List.length_eq_zero_iff.1 this
                      simp -dsimp only [↓reduceIte, go_sem, u1, u3]
                      refine arr_intro fun _ => ?_
                      simp only [List.length_map]
                      simp -dsimp only [↓reduceIte, go_sem, u1, u3]
                      refine arr_intro fun _ => ?_
                      simp only [List.length_map]
                      simp -dsimp only [↓reduceIte, go_sem, u1, u3]
                      refine guardV_split (fun c3 => ?_) (fun c3 => ?_) <;> (try rw [c3])
                      · have c3 : x.names.length = x.nodes.length := by simp at c3; omega
                        simp -dsimp only [↓reduceIte, go_sem, u1, u3]
                        refine all_c ?_
                        simp -dsimp only [↓reduceIte, go_sem, u1, u3]
                        refine ⟨Ext.app _ _, rfl, ?_⟩
                        simp only [AV.strip]
                        have e : decide x.Right = decide (AllIn 1 32 x.nodes) := decide_eq_decide.2 ⟨fun h => (hR.1 h).2.2.1, fun h => hR.2 ⟨c0, hnames, h, c1, c2, c3⟩⟩
                        rw [e] at hK
                        exact hK
                      · have c3 : x.names.length ≠ x.nodes.length := by simp at c3; omega
                        simp -dsimp only [↓reduceIte, go_sem, u1, u3]
                        exact bad _ (Ext.app _ _) (fun h => c3 (hR.1 h).2.2.2.2.2)
                    · have c2 : x.blocks ≠ [] := by rintro h; rw [h] at c2; simp at c2
                      simp -dsimp only [↓reduceIte, go_sem, u1, u3]
                      exact bad _ (Ext.app _ _) (fun h => c2 (hR.1 h).2.2.2.2.1)
                  · have c1 : x.size ≠ 0 := by simpa using c1
                    simp -dsimp only [↓reduceIte, go_sem, u1, u3]
                    exact bad _ (Ext.app _ _) (fun h => c1 (hR.1 h).2.2.2.1)
                · have c0 : x.kind ≠ 1 := by simpa using c0
                  simp -dsimp only [↓reduceIte, go_sem, u1, u3]
                  exact bad _ (Ext.app _ _) (fun h => c0 (hR.1 h).1)
      · have s1 : ¬ 0 ≤ x.size := by simp at s1; omega
        simp -dsimp only [↓reduceIte, go_sem]
        exact bad _ (Ext.app _ _) (fun h => s1 (hsz h).1)
    · have h2 : ¬ x.num ≤ 32 := by simp at h2; omega
      simp -dsimp only [↓reduceIte, go_sem]
      exact bad _ (Ext.app _ _) (fun h => h2 h.2.1)
  · have h1 : ¬ 1 ≤ x.num := by simp at h1; omega
    simp -dsimp only [↓reduceIte, go_sem]
    exact bad _ (Ext.app _ _) (fun h => h1 h.1)
end Go.Aff.L21

namespace Go.Aff.L21
open Go.Proofs Go.Aff Go.Aff.L01 Classical
set_option maxRecDepth 20000
attribute [local go_sem] push_app app_app length_app cellAt_app cellAt_app0 set_app set_app0 objs_app objs_app0 List.cons_append List.nil_append List.length_cons List.length_nil List.getElem?_cons_zero List.getElem?_cons_succ List.set_cons_zero List.set_cons_succ
attribute [-go_sem] cellAt_new
attribute [local go_sem] Try.underlying22 fits46 p46_0 Try.underlying84
attribute [local go_sem] fits3
attribute [local go_sem ↓] blockQ_exit2

theorem size_leaf {y : TLeaf} : (leafV y).size = 6 := by simp [leafV, AV.size, AV.sizes]
theorem agg_leaf {y : TLeaf} : (leafV y).isAgg = true := rfl
theorem tableAt {l : List TLeaf} {i : Nat} {y : TLeaf} (h : l[i]? = some y) : (l.map (·.x))[i]? = some y.x := by simp [h]
theorem get_pred {α : Type} {l : List α} {i : Nat} {y : α} (h : l[i]? = some y) (h0 : 0 < i) : l[i - 1]? = some (l[i - 1]'(by have := (List.getElem?_eq_some_iff.1 h).1; omega)) := List.getElem?_eq_getElem _
theorem nth_pred {α : Type} {l : List α} {i : Nat} {y : α} {F : α → Prop} (h : l[i]? = some y) (h0 : 0 < i) (hF : F (l[i - 1]'(by have := (List.getElem?_eq_some_iff.1 h).1; omega))) : nthW l ((i : Int) - 1) (@LamA _ ⟨F⟩) := by
  rw [show (i : Int) - 1 = ((i - 1 : Nat) : Int) by omega]; exact nth_get (get_pred h h0) hF
def TableTo (l : List TLeaf) (i : Nat) : Prop := ∀ (j : Nat) y, j < i → l[j]? = some y → y.x.Right ∧ ∀ z, 0 < j → l[j - 1]? = some z → z.x.num < y.x.num
theorem tableTo_all {l : List TLeaf} : TableTo l l.length ↔ Table (l.map (·.x)) := by
  constructor
  · intro h i x hx
    simp only [List.getElem?_map, Option.map_eq_some_iff] at hx
    obtain ⟨y, hy, rfl⟩ := hx
    refine ⟨(h i y (List.getElem?_eq_some_iff.1 hy).1 hy).1, fun z h0 hz => ?_⟩
    simp only [List.getElem?_map, Option.map_eq_some_iff] at hz
    obtain ⟨z, hz, rfl⟩ := hz
    exact (h i y (List.getElem?_eq_some_iff.1 hy).1 hy).2 z h0 hz
  · intro h j y _ hy
    exact ⟨(h j y.x (tableAt hy)).1, fun z h0 hz => (h j y.x (tableAt hy)).2 z.x h0 (tableAt hz)⟩
theorem tableTo_succ {l : List TLeaf} {i : Nat} {y : TLeaf} (hi : TableTo l i) (hy : l[i]? = some y) (h1 : y.x.Right) (h2 : ∀ z, 0 < i → l[i - 1]? = some z → z.x.num < y.x.num) : TableTo l (i + 1) := by
  intro j z hj hz
  by_cases h : j < i
  · exact hi j z h hz
  · obtain rfl : j = i := by omega
    rw [hy] at hz; cases hz; exact ⟨h1, h2⟩

theorem zt46 : ZeroOf Try.prog 84 (.agg [.int .i64 0, .int .i64 0, .int .i64 0, .slice .full [], .slice .full [], .slice .full []]) = True := by simp [zeroOf46]
theorem known_leaf {y : TLeaf} : (leafV y).known = true := rfl
attribute [local go_sem] zt46 zero46 agg_leaf known_leaf
theorem table_c {l : List TLeaf} {tk : Tk} {σ : AST} {K : AV → AST → Prop} (hK : K (.bool (decide (Table (l.map (·.x))))) σ) : TCalls Try.prog 99 [.slice tk (l.map leafV)] σ K := by
  refine TCalls.drop ?_
  refine tcalls_walk Try.f99 _ [.tmp 2] Try.func99 rfl rfl rfl mixed (Nat.le_of_ble_eq_true rfl) rfl fun hlen => ?_
  have bad : ∀ s, Ext σ s → ¬ Table (l.map (·.x)) → Ext σ s ∧ (AV.bool false).noRef = true ∧ K (AV.bool false).strip σ := fun s hx h => by
    rw [decide_eq_false h] at hK; exact ⟨hx, rfl, hK⟩
  simp -dsimp only [↓reduceIte, go_sem]
  refine arr_intro fun _ => ?_
  have hll : l.length ≤ 9223372036854775807 := by simpa [maxL] using ‹(l.map leafV).length ≤ maxL›
  simp only [List.length_map]
  simp -dsimp only [↓reduceIte, go_sem]
  refine awp_rounds (fun (i : Nat) τ s => Ext σ s ∧ i ≤ l.length ∧ TableTo l i ∧ τ 0 = .slice tk (l.map leafV) ∧ τ 5 = .slice tk (l.map leafV) ∧ τ 6 = .int .i64 l.length ∧ τ 7 = .int .i64 i) (fun i => l.length - i) 0 ?_ ?_
  · refine ⟨Ext.refl _, by omega, fun j y h => by omega, ?_, ?_, ?_, ?_⟩ <;> (try simp only [go_sem]) <;> rfl
  · rintro i τ s ⟨hx, hi, hall, t0, t5, t6, t7⟩
    simp -dsimp only [↓reduceIte, go_sem, t0, t5, t6, t7]
    refine boolW_split (fun hb => ?_) (fun hb => ?_)
    · have hb : i < l.length := by simp at hb; omega
      obtain ⟨y, hy⟩ := get_lt hb
      simp -dsimp only [↓reduceIte, go_sem, t0, t5, t6, t7]
      refine nth_get hy ?_
      repeat' (first | (simp -dsimp only [↓reduceIte, go_sem, t0, t5, t6, t7, leafV]) | (refine arr_intro fun _ => ?_) | (refine later_intro ⟨keeps_nil, ?_⟩) | (refine later_intro ⟨keeps_refl, ?_⟩) | (with_reducible refine keeps_go ?_ ?_; focus (first | (simp [keeps_cons, keeps_none, objs_app, objs_app0]; done) | (simp only [keeps_cons, keeps_none, objs_app0, objs_app, and_true]; first | rfl | exact ⟨rfl, rfl⟩ | exact ⟨rfl, rfl, rfl⟩))) | (with_reducible refine (And.intro (a := keeps _ _ _) ?_ ?_); focus (first | (simp [keeps_cons, keeps_none, objs_app, objs_app0]; done) | (simp only [keeps_cons, keeps_none, objs_app0, objs_app, and_true]; first | rfl | exact ⟨rfl, rfl⟩ | exact ⟨rfl, rfl, rfl⟩))) | (refine both_ways ?_ ?_) | (rw [wrap_i64 (by omega) (by omega)]) | (refine guardV_split (fun h => ?_) (fun h => ?_) <;> (try rw [h]) <;> (try simp at h) <;> (try (exfalso; omega))) | (with_reducible refine awp_drawS (id := 4) [0, 1, 2, 3, 4, 5, 6, 7, 8, 9, 10, 11, 12, 13, 14, 15, 16, 17] (by kernel_rfl) ?_) | (refine right_c ?_) | (refine nth_get hy ?_) | (refine nth_pred hy (by omega) ?_))
      · exact bad _ (hx.trans (Ext.app _ _)) fun ht => by have := (tableTo_all.2 ht i y hb hy).2 _ ‹_› (get_pred hy ‹_›); omega
      · refine later_intro ⟨i + 1, by omega, hx.trans (Ext.app _ _), by omega, tableTo_succ hall hy ‹_› (fun z h0 hz => by rw [get_pred hy h0] at hz; cases hz; omega), ?_, ?_, ?_, ?_⟩ <;> (try simp only [go_sem, t0, t5, t6, t7]) <;> rfl
      · refine later_intro ⟨i + 1, by omega, hx.trans (Ext.app _ _), by omega, tableTo_succ hall hy ‹_› (fun z h0 hz => by omega), ?_, ?_, ?_, ?_⟩ <;> (try simp only [go_sem, t0, t5, t6, t7]) <;> rfl
      · exact bad _ (hx.trans (Ext.app _ _)) fun ht => ‹¬ y.x.Right› (tableTo_all.2 ht i y hb hy).1
    · have hb : i = l.length := by simp at hb; omega
      repeat' (first | (simp -dsimp only [↓reduceIte, go_sem, t0, t5, t6, t7]) | (refine arr_intro fun _ => ?_) | (refine later_intro ⟨keeps_nil, ?_⟩) | (refine later_intro ⟨keeps_refl, ?_⟩) | (with_reducible refine keeps_go ?_ ?_; focus (first | (simp [keeps_cons, keeps_none, objs_app, objs_app0]; done) | (simp only [keeps_cons, keeps_none, objs_app0, objs_app, and_true]; first | rfl | exact ⟨rfl, rfl⟩ | exact ⟨rfl, rfl, rfl⟩))) | (with_reducible refine (And.intro (a := keeps _ _ _) ?_ ?_); focus (first | (simp [keeps_cons, keeps_none, objs_app, objs_app0]; done) | (simp only [keeps_cons, keeps_none, objs_app0, objs_app, and_true]; first | rfl | exact ⟨rfl, rfl⟩ | exact ⟨rfl, rfl, rfl⟩))) | (refine both_ways ?_ ?_) | (rw [wrap_i64 (by omega) (by omega)]) | (refine guardV_split (fun h => ?_) (fun h => ?_) <;> (try rw [h]) <;> (try simp at h) <;> (try (exfalso; omega))))
      rw [hb] at hall
      rw [decide_eq_true (tableTo_all.1 hall)] at hK
      exact ⟨hx, rfl, hK⟩
attribute [local go_sem ↓] blockQ_exit2
theorem Table_c {l : List TLeaf} {tk : Tk} {σ : AST} {K : AV → AST → Prop} (hK : K (.bool (decide (Table (l.map (·.x))))) σ) : TCalls Try.prog 78 [.slice tk (l.map leafV)] σ K := by
  refine tcalls_walk Try.f78 _ [.tmp 2] Try.func78 rfl rfl rfl mixed (Nat.le_of_ble_eq_true rfl) rfl fun hlen => ?_
  have bad : ¬ Table (l.map (·.x)) → K (AV.bool false) σ := fun h => by
    rw [decide_eq_false h] at hK; exact hK
  have hll : l.length ≤ 9223372036854775807 := by simpa [maxL, lenOk] using hlen _ (List.mem_cons_self ..)
  simp -dsimp only [↓reduceIte, go_sem]
  refine awp_rounds (fun (i : Nat) τ s => s = σ ∧ i ≤ l.length ∧ TableTo l i ∧ τ 0 = .slice tk (l.map leafV) ∧ τ 3 = .int .i64 i) (fun i => l.length - i) 0 ?_ ?_
  · refine ⟨rfl, by omega, fun j y h => by omega, ?_, ?_⟩ <;> (try simp only [go_sem]) <;> rfl
  · rintro i τ s ⟨rfl, hi, hall, t0, t3⟩
    simp -dsimp only [↓reduceIte, go_sem, t0, t3]
    refine arr_intro fun _ => ?_
    simp only [List.length_map]
    simp -dsimp only [↓reduceIte, go_sem, t0, t3]
    refine boolW_split (fun hb => ?_) (fun hb => ?_)
    · have hb : i < l.length := by simp at hb; omega
      obtain ⟨y, hy⟩ := get_lt hb
      repeat' (first | (simp -dsimp only [↓reduceIte, go_sem, t0, t3, leafV]) | (refine arr_intro fun _ => ?_) | (refine later_intro ⟨keeps_nil, ?_⟩) | (refine later_intro ⟨keeps_refl, ?_⟩) | (with_reducible refine keeps_go ?_ ?_; focus (first | (simp [keeps_cons, keeps_none, objs_app, objs_app0]; done) | (simp only [keeps_cons, keeps_none, objs_app0, objs_app, and_true]; first | rfl | exact ⟨rfl, rfl⟩ | exact ⟨rfl, rfl, rfl⟩))) | (with_reducible refine (And.intro (a := keeps _ _ _) ?_ ?_); focus (first | (simp [keeps_cons, keeps_none, objs_app, objs_app0]; done) | (simp only [keeps_cons, keeps_none, objs_app0, objs_app, and_true]; first | rfl | exact ⟨rfl, rfl⟩ | exact ⟨rfl, rfl, rfl⟩))) | (refine both_ways ?_ ?_) | (rw [wrap_i64 (by omega) (by omega)]) | (refine guardV_split (fun h => ?_) (fun h => ?_) <;> (try rw [h]) <;> (try simp at h) <;> (try (exfalso; omega))) | (with_reducible refine awp_drawS (id := 4) [0, 1, 2, 3, 4, 5, 6, 7, 8, 9, 10, 11, 12, 13, 14, 15, 16, 17, 18, 19, 20, 21, 22, 23] (by kernel_rfl) ?_) | (refine Right_c ?_) | (refine nth_get hy ?_) | (refine nth_pred hy (by omega) ?_))
      · exact bad fun ht => by have := (tableTo_all.2 ht i y hb hy).2 _ ‹_› (get_pred hy ‹_›); omega
      · refine later_intro ⟨i + 1, by omega, rfl, by omega, tableTo_succ hall hy ‹_› (fun z h0 hz => by rw [get_pred hy h0] at hz; cases hz; omega), ?_, ?_⟩ <;> (try simp only [go_sem, t0, t3]) <;> rfl
      · refine later_intro ⟨i + 1, by omega, rfl, by omega, tableTo_succ hall hy ‹_› (fun z h0 hz => by omega), ?_, ?_⟩ <;> (try simp only [go_sem, t0, t3]) <;> rfl
      · exact bad fun ht => ‹¬ y.x.Right› (tableTo_all.2 ht i y hb hy).1
    · have hb : i = l.length := by simp at hb; omega
      repeat' (first | (simp -dsimp only [↓reduceIte, go_sem, t0, t3]) | (refine arr_intro fun _ => ?_) | (refine later_intro ⟨keeps_nil, ?_⟩) | (refine later_intro ⟨keeps_refl, ?_⟩) | (with_reducible refine keeps_go ?_ ?_; focus (first | (simp [keeps_cons, keeps_none, objs_app, objs_app0]; done) | (simp only [keeps_cons, keeps_none, objs_app0, objs_app, and_true]; first | rfl | exact ⟨rfl, rfl⟩ | exact ⟨rfl, rfl, rfl⟩))) | (with_reducible refine (And.intro (a := keeps _ _ _) ?_ ?_); focus (first | (simp [keeps_cons, keeps_none, objs_app, objs_app0]; done) | (simp only [keeps_cons, keeps_none, objs_app0, objs_app, and_true]; first | rfl | exact ⟨rfl, rfl⟩ | exact ⟨rfl, rfl, rfl⟩))) | (refine both_ways ?_ ?_) | (rw [wrap_i64 (by omega) (by omega)]) | (refine guardV_split (fun h => ?_) (fun h => ?_) <;> (try rw [h]) <;> (try simp at h) <;> (try (exfalso; omega))))
      rw [hb] at hall
      rw [decide_eq_true (tableTo_all.1 hall)] at hK
      exact hK
end Go.Aff.L21

namespace Go.Aff

variable {P : Program} {σ s : AST} {tk : Tk} {K : AV → AST → Prop}

structure Gr (σ s : AST) (tk : Tk) (n : Nat) (e : Nat := 1) : Prop where
  x : Ext σ s
  t : tkNew σ tk
  c : canApp s tk n e
theorem Gr.start {n e : Nat} : Gr σ σ .full n e := ⟨Ext.refl _, .inl rfl, trivial⟩
theorem Gr.start' {n e : Nat} (h : Ext σ s) : Gr σ s .full n e := ⟨h, .inl rfl, trivial⟩
theorem Gr.grow {n m e : Nat} (h : Gr σ s tk n e) : Gr σ (growS s tk m e) (growT s tk) m e := ⟨h.x.grow h.t, h.t.grow h.x, canApp_grow h.c⟩
theorem Gr.app {n e : Nat} {l : List AObj} (h : Gr σ s tk n e) : Gr σ (s.app l) tk n e := ⟨h.x.trans (Ext.app _ _), h.t, by rw [canApp_app]; exact h.c⟩
theorem Gr.set {σ s : AST} {tk : Tk} {n e i : Nat} {o : AObj} (h : Gr σ s tk n e) (hi : σ.objs.length ≤ i) : Gr σ (s.set i o) tk n e := ⟨h.x.set hi, h.t, by rw [canApp_set]; exact h.c⟩
theorem canApp_of {n m e : Nat} (h : canApp s tk n e) (hm : m = n) : canApp s tk m e := by subst hm; exact h
theorem growS_objs {n e : Nat} : (growS σ tk n e).objs = σ.objs := by cases tk <;> rfl

/-! ### Parts put in, by rewriting -/
variable {KV : AV → Prop}
def fillE (P : Program) (t : TypeId) (ps : List AV) (u : Option AV) (i : Nat) (x : AV) (r : List (Nat × AV)) (K : AV → Prop) : Prop := match u with
  | some u => partIs P t ps i x ∧ u.shape = x.shape ∧ x.known = true ∧ fillW P t r (.agg (ps.set i x)) K
  | none => False
theorem fill_agg {t : TypeId} {i : Nat} {x : AV} {r : List (Nat × AV)} {ps : List AV} : fillW P t ((i, x) :: r) (.agg ps) KV = fillE P t ps ps[i]? i x r KV := by
  rw [fillW.eq_2]
  cases h : ps[i]? with
  | none => simp [fillE]
  | some u => simp [fillE]
theorem fillE_some {t : TypeId} {i : Nat} {x u : AV} {r : List (Nat × AV)} {ps : List AV} : fillE P t ps (some u) i x r KV = ((partIs P t ps i x ∧ u.shape = x.shape ∧ x.known = true) ∧ @Later ⟨fillW P t r (.agg (ps.set i x)) KV⟩) := by
  simp [fillE, Later, and_assoc]
theorem fill_nil' {t : TypeId} {v : AV} : fillW P t [] v KV = KV v := by cases v <;> rfl
attribute [go_sem] fill_agg fillE_some fill_nil'
end Go.Aff

namespace Go.Aff

variable {P : Program} {σ σ' : AST} {ops : Array Oper} {τ : Env} {KE : Env → AST → Prop}

inductive Tf where
  | nil
  | op (i k : Nat) (r : Tf)
  | fork (e : Nat) (a b : Tf)
def Tf.tr : Tf → Tr
  | .nil => .nil
  | .op i _ r => .op i r.tr
  | .fork e a b => .fork e a.tr b.tr
def Tf.all : Tf → List Nat
  | .nil => []
  | .op i k r => if k = 1 ∨ k = 3 then i :: r.all else r.all
  | .fork _ a b => a.all ++ b.all
def Tf.effs : Tf → List Nat
  | .nil => []
  | .op i k r => if k = 1 then i :: r.all else r.effs
  | .fork _ a b => a.effs ++ b.effs
def seqT (P : Program) (ops : Array Oper) : Tf → List Nat → Env → AST → (Env → AST → Prop) → Prop
  | .nil, ks, τ, σ, K => K τ σ
  | .op i 1 r, ks, τ, σ, K => match gop ops i with
    | none => False
    | some o => stepW P ops o τ σ fun v σ' => keeps ks σ σ' ∧ seqT P ops r ks (τ.putO o.dst v) σ' K
  | .op i 0 r, ks, τ, σ, K => match gop ops i with
    | none => False
    | some o => stepW P ops o τ σ fun v σ' => σ' = σ ∧ seqT P ops r (reads (ev τ) o.op ++ ks) (τ.putO o.dst v) σ' K
  | .op i _ r, ks, τ, σ, K => match gop ops i with
    | none => False
    | some o => stepW P ops o τ σ fun v σ' => σ' = σ ∧ seqT P ops r ks (τ.putO o.dst v) σ' K
  | .fork _ a b, ks, τ, σ, K => seqT P ops a ks τ σ K ∧ seqT P ops b ks τ σ K

def flagsT (P : Program) (ops : Array Oper) : Tf → Bool
  | .nil => true
  | .op i k r => (match ops[i]? with
    | none => false
    | some o => effO P o == (k == 1 || k == 3)) && (k == 0 || k == 1 || k == 3 || r.effs.all fun y => ahead (anc ops) y i) && flagsT P ops r
  | .fork _ a b => flagsT P ops a && flagsT P ops b

def validT (P : Program) (ops : Array Oper) (x : Nat × Env × AV) (σ : AST) : Prop := ∀ o, ops[x.1]? = some o → (∀ t, lenOk (x.2.1 t)) ∧ effO P o = false ∧ stepW P ops o x.2.1 σ fun v' σ'' => v' = x.2.2 ∧ σ'' = σ
def pastT (P : Program) (ops : Array Oper) (ks : List Nat) (past : List (Nat × Env × AV)) (T : Tf) (σ : AST) : Prop :=
  ∀ x ∈ past, (validT P ops x σ ∧ ∀ o, ops[x.1]? = some o → ∀ k ∈ reads (ev x.2.1) o.op, k ∈ ks) ∨ (validT P ops x σ ∧ ∀ y ∈ T.effs, ahead (anc ops) y x.1 = true) ∨ (∀ y ∈ T.all, ahead (anc ops) y x.1 = true)

theorem seqT_pure (i k : Nat) (r : Tf) (ks : List Nat) (past : List (Nat × Env × AV)) (τ : Env) (σ : AST) (k0 : k ≠ 0) (k1 : k ≠ 1) (k3 : k ≠ 3)
    (ih : ∀ (past' : List (Nat × Env × AV)) (τ' : Env), flagsT P ops r = true → pastT P ops ks past' r σ → (∀ t, lenOk (τ' t)) → seqT P ops r ks τ' σ KE → awpT P ops r.tr past' τ' σ KE)
    (hf : flagsT P ops (.op i k r) = true) (hp : pastT P ops ks past (.op i k r) σ) (hlen : ∀ t, lenOk (τ t))
    (h : match gop ops i with
      | none => False
      | some o => stepW P ops o τ σ fun v σ' => σ' = σ ∧ seqT P ops r ks (τ.putO o.dst v) σ' KE) : awpT P ops (Tf.op i k r).tr past τ σ KE := by
  split at h
  · exact h.elim
  · rename_i o hk
    have hk : ops[i]? = some o := hk
    simp only [flagsT, hk, Bool.and_eq_true, beq_iff_eq] at hf
    have b0 : (k == 0) = false := by simpa using k0
    have b1 : (k == 1) = false := by simpa using k1
    have b3 : (k == 3) = false := by simpa using k3
    rw [b0, b1, b3] at hf
    have he : effO P o = false := by simpa using hf.1.1
    have hall : (r.effs.all fun y => ahead (anc ops) y i) = true := by simpa using hf.1.2
    rw [List.all_eq_true] at hall
    simp only [Tf.tr, awpT, hk, he, Bool.false_eq_true, if_false]
    obtain ⟨v, hv, hkk⟩ := stepW_det hlen he h
    refine hkk _ fun hlv => ih _ _ hf.2 ?_ hlv hv.2
    intro x hx
    rcases List.mem_cons.1 hx with rfl | hx
    · right; left
      refine ⟨fun o' ho' => ?_, hall⟩
      dsimp only at ho' ⊢
      rw [hk] at ho'; cases ho'
      exact ⟨hlen, he, hkk _ ⟨rfl, rfl⟩⟩
    · rcases hp x hx with ⟨h0, h1⟩ | ⟨h0, h1⟩ | h0
      · exact .inl ⟨h0, h1⟩
      · exact .inr (.inl ⟨h0, fun y hy => h1 y (by simpa [Tf.effs, k1] using hy)⟩)
      · exact .inr (.inr fun y hy => h0 y (by simpa [Tf.all, k1, k3] using hy))
theorem seqT_awpT : ∀ (T : Tf) (ks : List Nat) (past : List (Nat × Env × AV)) (τ : Env) (σ : AST), flagsT P ops T = true → pastT P ops ks past T σ → (∀ t, lenOk (τ t)) → seqT P ops T ks τ σ KE → awpT P ops T.tr past τ σ KE
  | .nil, ks, past, τ, σ, hf, hp, hlen, h => h
  | .fork e a b, ks, past, τ, σ, hf, hp, hlen, h => by
    simp only [flagsT, Bool.and_eq_true] at hf
    simp only [seqT] at h
    refine ⟨seqT_awpT a ks past τ σ hf.1 (fun x hx => ?_) hlen h.1, seqT_awpT b ks past τ σ hf.2 (fun x hx => ?_) hlen h.2⟩
    · rcases hp x hx with h | ⟨h1, h2⟩ | h
      · exact .inl h
      · exact .inr (.inl ⟨h1, fun y hy => h2 y (by simp [Tf.effs, hy])⟩)
      · exact .inr (.inr fun y hy => h y (by simp [Tf.all, hy]))
    · rcases hp x hx with h | ⟨h1, h2⟩ | h
      · exact .inl h
      · exact .inr (.inl ⟨h1, fun y hy => h2 y (by simp [Tf.effs, hy])⟩)
      · exact .inr (.inr fun y hy => h y (by simp [Tf.all, hy]))
  | .op i 1 r, ks, past, τ, σ, hf, hp, hlen, h => by
    simp only [seqT] at h
    split at h
    · exact h.elim
    · rename_i o hk
      have hk : ops[i]? = some o := hk
      simp only [flagsT, hk, Bool.and_eq_true, beq_iff_eq] at hf
      have he : effO P o = true := by simpa using hf.1.1
      simp only [Tf.tr, awpT, hk, he, if_true]
      refine stepW_mono (fun v σ' hh => ?_) h
      refine ⟨fun x hx hah o ho => ?_, fun hlv => seqT_awpT r ks past _ _ hf.2 ?_ hlv hh.2⟩
      · rcases hp x hx with ⟨h0, h3⟩ | ⟨_, h0⟩ | h0
        · obtain ⟨h1, h2, h4⟩ := h0 o ho
          exact step_same h1 h2 (fun k hk => hh.1 k (h3 o ho k hk)) h4
        · rw [h0 i (by simp [Tf.effs])] at hah; cases hah
        · rw [h0 i (by simp [Tf.all])] at hah; cases hah
      · intro x hx
        rcases hp x hx with ⟨h0, h3⟩ | ⟨_, h0⟩ | h0
        · left
          refine ⟨fun o ho => ?_, h3⟩
          obtain ⟨h1, h2, h4⟩ := h0 o ho
          exact ⟨h1, h2, step_same h1 h2 (fun k hk => hh.1 k (h3 o ho k hk)) h4⟩
        · right; right
          intro y hy; exact h0 y (by simp [Tf.effs, hy])
        · right; right
          intro y hy; exact h0 y (by simp [Tf.all, hy])
  | .op i 3 r, ks, past, τ, σ, hf, hp, hlen, h => by
    simp only [seqT] at h
    split at h
    · exact h.elim
    · rename_i o hk
      have hk : ops[i]? = some o := hk
      simp only [flagsT, hk, Bool.and_eq_true, beq_iff_eq] at hf
      have he : effO P o = true := by simpa using hf.1.1
      simp only [Tf.tr, awpT, hk, he, if_true]
      refine stepW_mono (fun v σ' hh => ?_) h
      obtain ⟨rfl, hh⟩ := hh
      refine ⟨fun x hx hah o ho => ?_, fun hlv => seqT_awpT r ks past _ _ hf.2 ?_ hlv hh⟩
      · rcases hp x hx with ⟨h0, h3⟩ | ⟨h0, _⟩ | h0
        · exact (h0 o ho).2.2
        · exact (h0 o ho).2.2
        · rw [h0 i (by simp [Tf.all])] at hah; cases hah
      · intro x hx
        rcases hp x hx with h0 | ⟨h0, h1⟩ | h0
        · exact .inl h0
        · exact .inr (.inl ⟨h0, fun y hy => h1 y (by simpa [Tf.effs] using hy)⟩)
        · exact .inr (.inr fun y hy => h0 y (by simp [Tf.all, hy]))
  | .op i 0 r, ks, past, τ, σ, hf, hp, hlen, h => by
    simp only [seqT] at h
    split at h
    · exact h.elim
    · rename_i o hk
      have hk : ops[i]? = some o := hk
      simp only [flagsT, hk, Bool.and_eq_true, beq_iff_eq] at hf
      have he : effO P o = false := by simpa using hf.1.1
      simp only [Tf.tr, awpT, hk, he, Bool.false_eq_true, if_false]
      obtain ⟨v, hv, hkk⟩ := stepW_det hlen he h
      refine hkk _ fun hlv => seqT_awpT r _ _ _ _ hf.2 ?_ hlv hv.2
      intro x hx
      rcases List.mem_cons.1 hx with rfl | hx
      · left
        refine ⟨fun o' ho' => ?_, fun o' ho' k hkr => ?_⟩
        · dsimp only at ho' ⊢
          rw [hk] at ho'; cases ho'
          exact ⟨hlen, he, hkk _ ⟨rfl, rfl⟩⟩
        · dsimp only at ho' hkr
          rw [hk] at ho'; cases ho'
          exact List.mem_append_left _ hkr
      · rcases hp x hx with ⟨h0, h1⟩ | ⟨h0, h1⟩ | h0
        · exact .inl ⟨h0, fun o' ho' k hkr => List.mem_append_right _ (h1 o' ho' k hkr)⟩
        · exact .inr (.inl ⟨h0, fun y hy => h1 y (by simpa [Tf.effs] using hy)⟩)
        · exact .inr (.inr fun y hy => h0 y (by simpa [Tf.all] using hy))
  | .op i 2 r, ks, past, τ, σ, hf, hp, hlen, h => seqT_pure i 2 r ks past τ σ (by decide) (by decide) (by decide) (fun past' K' h1 h2 h3 h4 => seqT_awpT r ks past' _ σ h1 h2 h3 h4) hf hp hlen (by simpa only [seqT] using h)
  | .op i (n + 4) r, ks, past, τ, σ, hf, hp, hlen, h => seqT_pure i (n + 4) r ks past τ σ (by omega) (by omega) (by omega) (fun past' K' h1 h2 h3 h4 => seqT_awpT r ks past' _ σ h1 h2 h3 h4) hf hp hlen (by simpa only [seqT] using h)

theorem awp_drawT {id : Nat} {ops : Array Oper} {Q : Exit → Env → AST → Prop} (T : Tf) (ho : (trOk P ops T.tr && flagsT P ops T) = true) (h : seqT P ops T [] τ σ (Q .normal)) : awp P (.region id ops true) Q τ σ := by
  rw [Bool.and_eq_true] at ho
  exact awp_drawTree _ ho.1 fun hlen => seqT_awpT T [] [] τ σ ho.2 (fun x hx => by simp at hx) hlen h

def seqT0 (P : Program) (ops : Array Oper) (o : Option Oper) (r : Tf) (ks : List Nat) (τ : Env) (σ : AST) (K : Env → AST → Prop) : Prop := match o with
  | none => False
  | some o => stepW P ops o τ σ fun v σ' => σ' = σ ∧ seqT P ops r (reads (ev τ) o.op ++ ks) (τ.putO o.dst v) σ' K
def seqT1 (P : Program) (ops : Array Oper) (o : Option Oper) (r : Tf) (ks : List Nat) (τ : Env) (σ : AST) (K : Env → AST → Prop) : Prop := match o with
  | none => False
  | some o => stepW P ops o τ σ fun v σ' => keeps ks σ σ' ∧ seqT P ops r ks (τ.putO o.dst v) σ' K
def seqT2 (P : Program) (ops : Array Oper) (o : Option Oper) (r : Tf) (ks : List Nat) (τ : Env) (σ : AST) (K : Env → AST → Prop) : Prop := match o with
  | none => False
  | some o => stepW P ops o τ σ fun v σ' => σ' = σ ∧ seqT P ops r ks (τ.putO o.dst v) σ' K
variable {ks : List Nat}
theorem seqT_nil : seqT P ops .nil ks τ σ KE = KE τ σ := nr rfl
theorem seqT_1 {i : Nat} {r : Tf} : seqT P ops (.op i 1 r) ks τ σ KE = seqT1 P ops (gop ops i) r ks τ σ KE := by simp only [seqT, seqT1]
theorem seqT_0 {i : Nat} {r : Tf} : seqT P ops (.op i 0 r) ks τ σ KE = seqT0 P ops (gop ops i) r ks τ σ KE := by simp only [seqT, seqT0]
theorem seqT_3 {i : Nat} {r : Tf} : seqT P ops (.op i 3 r) ks τ σ KE = seqT2 P ops (gop ops i) r ks τ σ KE := by simp only [seqT, seqT2]
theorem seqT_2 {i : Nat} {r : Tf} : seqT P ops (.op i 2 r) ks τ σ KE = seqT2 P ops (gop ops i) r ks τ σ KE := by simp only [seqT, seqT2]
structure Both (A B : Prop) : Prop where
  l : A
  r : B
theorem seqT_fork {e : Nat} {a b : Tf} : seqT P ops (.fork e a b) ks τ σ KE = Both (@Later ⟨seqT P ops a ks τ σ KE⟩) (@Later ⟨seqT P ops b ks τ σ KE⟩) := by
  simp only [seqT, Later, eq_iff_iff]
  exact ⟨fun h => ⟨h.1, h.2⟩, fun h => ⟨h.l, h.r⟩⟩
theorem both_ways {A B : Prop} (ha : A) (hb : B) : Both (@Later ⟨A⟩) (@Later ⟨B⟩) := ⟨ha, hb⟩
theorem seqT1_some {o : Oper} {r : Tf} : seqT1 P ops (some o) r ks τ σ KE = stepW P ops o τ σ (@Lam ⟨fun v σ' => @Later ⟨keeps ks σ σ' ∧ seqT P ops r ks (τ.putO o.dst v) σ' KE⟩⟩) := nr rfl
theorem seqT0_some {o : Oper} {r : Tf} : seqT0 P ops (some o) r ks τ σ KE = stepW P ops o τ σ (@Lam ⟨fun v σ' => σ' = σ ∧ @Later ⟨seqT P ops r (reads (ev τ) o.op ++ ks) (τ.putO o.dst v) σ' KE⟩⟩) := nr rfl
theorem seqT2_some {o : Oper} {r : Tf} : seqT2 P ops (some o) r ks τ σ KE = stepW P ops o τ σ (@Lam ⟨fun v σ' => σ' = σ ∧ @Later ⟨seqT P ops r ks (τ.putO o.dst v) σ' KE⟩⟩) := nr rfl
attribute [go_sem ↓] seqT_nil seqT_0 seqT_1 seqT_2 seqT_3 seqT_fork seqT0_some seqT1_some seqT2_some
end Go.Aff

namespace Go.Aff.L10
open Go.Proofs Go.Aff Go.Aff.L01 Classical
set_option maxRecDepth 20000
def dig0 : Dig := ⟨List.replicate 32 0, by simp⟩
structure Sub where
  num : Int
  kind : Int
  target : Int
  value : List UInt8
  asked : Dig
  data : Dig
def sub0 : Sub := ⟨0, 0, 0, [], dig0, dig0⟩
def subPs (x : Sub) : List AV := [.int .i64 x.num, .int .i64 x.kind, .int .i64 x.target, .str x.value, .dig x.asked, .dig x.data]
abbrev subV (x : Sub) : AV := .agg (subPs x)
theorem subPs_0 {x : Sub} : (subPs x)[0]? = some (.int .i64 x.num) := nr rfl
theorem subAt_0 {x : Sub} {v : AV} : partIs Try.prog 67 (subPs x) 0 v = fits Try.prog 3 v := by rw [partIs_of (o := 0) (T := 3) (by kernel_rfl)]; simp [subPs, AV.sizes, AV.size]
theorem subSet_0 {x : Sub} {y : Int} : (subPs x).set 0 (.int .i64 y) = subPs { x with num := y } := nr rfl
theorem subPs_1 {x : Sub} : (subPs x)[1]? = some (.int .i64 x.kind) := nr rfl
theorem subAt_1 {x : Sub} {v : AV} : partIs Try.prog 67 (subPs x) 1 v = fits Try.prog 3 v := by rw [partIs_of (o := 1) (T := 3) (by kernel_rfl)]; simp [subPs, AV.sizes, AV.size]
theorem subSet_1 {x : Sub} {y : Int} : (subPs x).set 1 (.int .i64 y) = subPs { x with kind := y } := nr rfl
theorem subPs_2 {x : Sub} : (subPs x)[2]? = some (.int .i64 x.target) := nr rfl
theorem subAt_2 {x : Sub} {v : AV} : partIs Try.prog 67 (subPs x) 2 v = fits Try.prog 3 v := by rw [partIs_of (o := 2) (T := 3) (by kernel_rfl)]; simp [subPs, AV.sizes, AV.size]
theorem subSet_2 {x : Sub} {y : Int} : (subPs x).set 2 (.int .i64 y) = subPs { x with target := y } := nr rfl
theorem subPs_3 {x : Sub} : (subPs x)[3]? = some (.str x.value) := nr rfl
theorem subAt_3 {x : Sub} {v : AV} : partIs Try.prog 67 (subPs x) 3 v = fits Try.prog 9 v := by rw [partIs_of (o := 3) (T := 9) (by kernel_rfl)]; simp [subPs, AV.sizes, AV.size]
theorem subPs_4 {x : Sub} : (subPs x)[4]? = some (.dig x.asked) := nr rfl
theorem subAt_4 {x : Sub} {v : AV} : partIs Try.prog 67 (subPs x) 4 v = fits Try.prog 65 v := by rw [partIs_of (o := 4) (T := 65) (by kernel_rfl)]; simp [subPs, AV.sizes, AV.size]
theorem subPs_5 {x : Sub} : (subPs x)[5]? = some (.dig x.data) := nr rfl
theorem subAt_5 {x : Sub} {v : AV} : partIs Try.prog 67 (subPs x) 5 v = fits Try.prog 65 v := by rw [partIs_of (o := 36) (T := 65) (by kernel_rfl)]; simp [subPs, AV.sizes, AV.size]
theorem sizes_sub {x : Sub} : AV.sizes (subPs x) = 68 := by simp [subPs, AV.sizes, AV.size]
theorem shapes_sub {x : Sub} : AV.shapes (subPs x) = [.leaf, .leaf, .leaf, .leaf, .dig, .dig] := by simp [subPs, AV.shapes, AV.shape]
theorem fits_sub {v : AV} : fits Try.prog 67 v = (v.isAgg = true ∧ v.size = 68) := fits_agg (by kernel_rfl) (by kernel_rfl)
theorem zero_sub : zeroA Try.prog 12 67 = .agg (subPs sub0) := by kernel_rfl
theorem zt_sub : ZeroOf Try.prog 67 (.agg (subPs sub0)) = True := eq_true ⟨_, _, rfl, rfl, rfl, rfl, rfl⟩
theorem built_sub : Built Try.prog 67 = True := eq_true (by unfold Built; rw [Try.underlying67]; decide +kernel)
structure Pend where
  client : Int
  num : Int
  kind : Int
  target : Int
  asked : Dig
  proof : Dig
def pend0 : Pend := ⟨0, 0, 0, 0, dig0, dig0⟩
def pendPs (x : Pend) : List AV := [.int .i64 x.client, .int .i64 x.num, .int .i64 x.kind, .int .i64 x.target, .dig x.asked, .dig x.proof]
abbrev pendV (x : Pend) : AV := .agg (pendPs x)
theorem pendPs_0 {x : Pend} : (pendPs x)[0]? = some (.int .i64 x.client) := nr rfl
theorem pendAt_0 {x : Pend} {v : AV} : partIs Try.prog 163 (pendPs x) 0 v = fits Try.prog 3 v := by rw [partIs_of (o := 0) (T := 3) (by kernel_rfl)]; simp [pendPs, AV.sizes, AV.size]
theorem pendPs_1 {x : Pend} : (pendPs x)[1]? = some (.int .i64 x.num) := nr rfl
theorem pendAt_1 {x : Pend} {v : AV} : partIs Try.prog 163 (pendPs x) 1 v = fits Try.prog 3 v := by rw [partIs_of (o := 1) (T := 3) (by kernel_rfl)]; simp [pendPs, AV.sizes, AV.size]
theorem pendPs_2 {x : Pend} : (pendPs x)[2]? = some (.int .i64 x.kind) := nr rfl
theorem pendAt_2 {x : Pend} {v : AV} : partIs Try.prog 163 (pendPs x) 2 v = fits Try.prog 3 v := by rw [partIs_of (o := 2) (T := 3) (by kernel_rfl)]; simp [pendPs, AV.sizes, AV.size]
theorem pendPs_3 {x : Pend} : (pendPs x)[3]? = some (.int .i64 x.target) := nr rfl
theorem pendAt_3 {x : Pend} {v : AV} : partIs Try.prog 163 (pendPs x) 3 v = fits Try.prog 3 v := by rw [partIs_of (o := 3) (T := 3) (by kernel_rfl)]; simp [pendPs, AV.sizes, AV.size]
theorem pendPs_4 {x : Pend} : (pendPs x)[4]? = some (.dig x.asked) := nr rfl
theorem pendAt_4 {x : Pend} {v : AV} : partIs Try.prog 163 (pendPs x) 4 v = fits Try.prog 65 v := by rw [partIs_of (o := 4) (T := 65) (by kernel_rfl)]; simp [pendPs, AV.sizes, AV.size]
theorem pendPs_5 {x : Pend} : (pendPs x)[5]? = some (.dig x.proof) := nr rfl
theorem pendAt_5 {x : Pend} {v : AV} : partIs Try.prog 163 (pendPs x) 5 v = fits Try.prog 65 v := by rw [partIs_of (o := 36) (T := 65) (by kernel_rfl)]; simp [pendPs, AV.sizes, AV.size]
theorem sizes_pend {x : Pend} : AV.sizes (pendPs x) = 68 := by simp [pendPs, AV.sizes, AV.size]
theorem shapes_pend {x : Pend} : AV.shapes (pendPs x) = [.leaf, .leaf, .leaf, .leaf, .dig, .dig] := by simp [pendPs, AV.shapes, AV.shape]
theorem fits_pend {v : AV} : fits Try.prog 163 v = (v.isAgg = true ∧ v.size = 68) := fits_agg (by kernel_rfl) (by kernel_rfl)
theorem zero_pend : zeroA Try.prog 12 163 = .agg (pendPs pend0) := by kernel_rfl
theorem zt_pend : ZeroOf Try.prog 163 (.agg (pendPs pend0)) = True := eq_true ⟨_, _, rfl, rfl, rfl, rfl, rfl⟩
structure Rep where
  num : Int
  last : Int
  view : List UInt8
  commit : Dig
  pending : List Pend
  vnum : Int
  value : List UInt8
  data : Dig
  seen : List UInt8
  seenTag : Dig
def rep0 : Rep := ⟨0, 0, [], dig0, [], 0, [], dig0, [], dig0⟩
def repPs (t0 : Tk) (x : Rep) : List AV := [.int .i64 x.num, .int .i64 x.last, .str x.view, .dig x.commit, .slice t0 (x.pending.map pendV), .int .i64 x.vnum, .str x.value, .dig x.data, .str x.seen, .dig x.seenTag]
abbrev repV (t0 : Tk) (x : Rep) : AV := .agg (repPs t0 x)
theorem repPs_0 {t0 : Tk} {x : Rep} : (repPs t0 x)[0]? = some (.int .i64 x.num) := nr rfl
theorem repAt_0 {t0 : Tk} {x : Rep} {v : AV} : partIs Try.prog 70 (repPs t0 x) 0 v = fits Try.prog 3 v := by rw [partIs_of (o := 0) (T := 3) (by kernel_rfl)]; simp [repPs, AV.sizes, AV.size]
theorem repPs_1 {t0 : Tk} {x : Rep} : (repPs t0 x)[1]? = some (.int .i64 x.last) := nr rfl
theorem repAt_1 {t0 : Tk} {x : Rep} {v : AV} : partIs Try.prog 70 (repPs t0 x) 1 v = fits Try.prog 3 v := by rw [partIs_of (o := 1) (T := 3) (by kernel_rfl)]; simp [repPs, AV.sizes, AV.size]
theorem repPs_2 {t0 : Tk} {x : Rep} : (repPs t0 x)[2]? = some (.str x.view) := nr rfl
theorem repAt_2 {t0 : Tk} {x : Rep} {v : AV} : partIs Try.prog 70 (repPs t0 x) 2 v = fits Try.prog 9 v := by rw [partIs_of (o := 2) (T := 9) (by kernel_rfl)]; simp [repPs, AV.sizes, AV.size]
theorem repPs_3 {t0 : Tk} {x : Rep} : (repPs t0 x)[3]? = some (.dig x.commit) := nr rfl
theorem repAt_3 {t0 : Tk} {x : Rep} {v : AV} : partIs Try.prog 70 (repPs t0 x) 3 v = fits Try.prog 65 v := by rw [partIs_of (o := 3) (T := 65) (by kernel_rfl)]; simp [repPs, AV.sizes, AV.size]
theorem repPs_4 {t0 : Tk} {x : Rep} : (repPs t0 x)[4]? = some (.slice t0 (x.pending.map pendV)) := nr rfl
theorem repAt_4 {t0 : Tk} {x : Rep} {v : AV} : partIs Try.prog 70 (repPs t0 x) 4 v = fits Try.prog 68 v := by rw [partIs_of (o := 35) (T := 68) (by kernel_rfl)]; simp [repPs, AV.sizes, AV.size]
theorem repPs_5 {t0 : Tk} {x : Rep} : (repPs t0 x)[5]? = some (.int .i64 x.vnum) := nr rfl
theorem repAt_5 {t0 : Tk} {x : Rep} {v : AV} : partIs Try.prog 70 (repPs t0 x) 5 v = fits Try.prog 3 v := by rw [partIs_of (o := 36) (T := 3) (by kernel_rfl)]; simp [repPs, AV.sizes, AV.size]
theorem repPs_6 {t0 : Tk} {x : Rep} : (repPs t0 x)[6]? = some (.str x.value) := nr rfl
theorem repAt_6 {t0 : Tk} {x : Rep} {v : AV} : partIs Try.prog 70 (repPs t0 x) 6 v = fits Try.prog 9 v := by rw [partIs_of (o := 37) (T := 9) (by kernel_rfl)]; simp [repPs, AV.sizes, AV.size]
theorem repPs_7 {t0 : Tk} {x : Rep} : (repPs t0 x)[7]? = some (.dig x.data) := nr rfl
theorem repAt_7 {t0 : Tk} {x : Rep} {v : AV} : partIs Try.prog 70 (repPs t0 x) 7 v = fits Try.prog 65 v := by rw [partIs_of (o := 38) (T := 65) (by kernel_rfl)]; simp [repPs, AV.sizes, AV.size]
theorem repPs_8 {t0 : Tk} {x : Rep} : (repPs t0 x)[8]? = some (.str x.seen) := nr rfl
theorem repAt_8 {t0 : Tk} {x : Rep} {v : AV} : partIs Try.prog 70 (repPs t0 x) 8 v = fits Try.prog 9 v := by rw [partIs_of (o := 70) (T := 9) (by kernel_rfl)]; simp [repPs, AV.sizes, AV.size]
theorem repPs_9 {t0 : Tk} {x : Rep} : (repPs t0 x)[9]? = some (.dig x.seenTag) := nr rfl
theorem repAt_9 {t0 : Tk} {x : Rep} {v : AV} : partIs Try.prog 70 (repPs t0 x) 9 v = fits Try.prog 65 v := by rw [partIs_of (o := 71) (T := 65) (by kernel_rfl)]; simp [repPs, AV.sizes, AV.size]
theorem sizes_rep {t0 : Tk} {x : Rep} : AV.sizes (repPs t0 x) = 103 := by simp [repPs, AV.sizes, AV.size]
theorem fits_rep {v : AV} : fits Try.prog 70 v = (v.isAgg = true ∧ v.size = 103) := fits_agg (by kernel_rfl) (by kernel_rfl)
structure Blob where
  owner : Int
  num : Int
  cipher : List UInt8
  tag : Dig
def blob0 : Blob := ⟨0, 0, [], dig0⟩
def blobPs (x : Blob) : List AV := [.int .i64 x.owner, .int .i64 x.num, .str x.cipher, .dig x.tag]
theorem blobPs_0 {x : Blob} : (blobPs x)[0]? = some (.int .i64 x.owner) := nr rfl
theorem blobAt_0 {x : Blob} {v : AV} : partIs Try.prog 72 (blobPs x) 0 v = fits Try.prog 3 v := by rw [partIs_of (o := 0) (T := 3) (by kernel_rfl)]; simp [blobPs, AV.sizes, AV.size]
theorem blobPs_1 {x : Blob} : (blobPs x)[1]? = some (.int .i64 x.num) := nr rfl
theorem blobAt_1 {x : Blob} {v : AV} : partIs Try.prog 72 (blobPs x) 1 v = fits Try.prog 3 v := by rw [partIs_of (o := 1) (T := 3) (by kernel_rfl)]; simp [blobPs, AV.sizes, AV.size]
theorem blobPs_2 {x : Blob} : (blobPs x)[2]? = some (.str x.cipher) := nr rfl
theorem blobAt_2 {x : Blob} {v : AV} : partIs Try.prog 72 (blobPs x) 2 v = fits Try.prog 9 v := by rw [partIs_of (o := 2) (T := 9) (by kernel_rfl)]; simp [blobPs, AV.sizes, AV.size]
theorem blobPs_3 {x : Blob} : (blobPs x)[3]? = some (.dig x.tag) := nr rfl
theorem blobAt_3 {x : Blob} {v : AV} : partIs Try.prog 72 (blobPs x) 3 v = fits Try.prog 65 v := by rw [partIs_of (o := 3) (T := 65) (by kernel_rfl)]; simp [blobPs, AV.sizes, AV.size]
theorem sizes_blob {x : Blob} : AV.sizes (blobPs x) = 35 := by simp [blobPs, AV.sizes, AV.size]
theorem fits_blob {v : AV} : fits Try.prog 72 v = (v.isAgg = true ∧ v.size = 35) := fits_agg (by kernel_rfl) (by kernel_rfl)
structure Msg where
  kind : Int
  client : Int
  sub : Sub
  rep : Rep
  view : List UInt8
  by_ : Int
  tag : Dig
  own : Dig
  blob : Blob
  nums : List Int
def msg0 : Msg := ⟨0, 0, sub0, rep0, [], 0, dig0, dig0, blob0, []⟩
def msgPs (t0 t1 : Tk) (x : Msg) : List AV := [.int .i64 x.kind, .int .i64 x.client, .agg (subPs x.sub), .agg (repPs t0 x.rep), .str x.view, .int .i64 x.by_, .dig x.tag, .dig x.own, .agg (blobPs x.blob), .slice t1 (x.nums.map (AV.int .i64))]
abbrev msgV (t0 t1 : Tk) (x : Msg) : AV := .agg (msgPs t0 t1 x)
theorem msgPs_0 {t0 t1 : Tk} {x : Msg} : (msgPs t0 t1 x)[0]? = some (.int .i64 x.kind) := nr rfl
theorem msgAt_0 {t0 t1 : Tk} {x : Msg} {v : AV} : partIs Try.prog 74 (msgPs t0 t1 x) 0 v = fits Try.prog 3 v := by rw [partIs_of (o := 0) (T := 3) (by kernel_rfl)]; simp [msgPs, AV.sizes, AV.size]
theorem msgPs_1 {t0 t1 : Tk} {x : Msg} : (msgPs t0 t1 x)[1]? = some (.int .i64 x.client) := nr rfl
theorem msgAt_1 {t0 t1 : Tk} {x : Msg} {v : AV} : partIs Try.prog 74 (msgPs t0 t1 x) 1 v = fits Try.prog 3 v := by rw [partIs_of (o := 1) (T := 3) (by kernel_rfl)]; simp [msgPs, AV.sizes, AV.size]
theorem msgPs_2 {t0 t1 : Tk} {x : Msg} : (msgPs t0 t1 x)[2]? = some (.agg (subPs x.sub)) := nr rfl
theorem msgAt_2 {t0 t1 : Tk} {x : Msg} {v : AV} : partIs Try.prog 74 (msgPs t0 t1 x) 2 v = fits Try.prog 67 v := by rw [partIs_of (o := 2) (T := 67) (by kernel_rfl)]; simp [msgPs, AV.sizes, AV.size]
theorem msgPs_3 {t0 t1 : Tk} {x : Msg} : (msgPs t0 t1 x)[3]? = some (.agg (repPs t0 x.rep)) := nr rfl
theorem msgAt_3 {t0 t1 : Tk} {x : Msg} {v : AV} : partIs Try.prog 74 (msgPs t0 t1 x) 3 v = fits Try.prog 70 v := by rw [partIs_of (o := 70) (T := 70) (by kernel_rfl)]; simp [msgPs, AV.sizes, AV.size, sizes_sub]
theorem msgPs_4 {t0 t1 : Tk} {x : Msg} : (msgPs t0 t1 x)[4]? = some (.str x.view) := nr rfl
theorem msgAt_4 {t0 t1 : Tk} {x : Msg} {v : AV} : partIs Try.prog 74 (msgPs t0 t1 x) 4 v = fits Try.prog 9 v := by rw [partIs_of (o := 173) (T := 9) (by kernel_rfl)]; simp [msgPs, AV.sizes, AV.size, sizes_sub, sizes_rep]
theorem msgPs_5 {t0 t1 : Tk} {x : Msg} : (msgPs t0 t1 x)[5]? = some (.int .i64 x.by_) := nr rfl
theorem msgAt_5 {t0 t1 : Tk} {x : Msg} {v : AV} : partIs Try.prog 74 (msgPs t0 t1 x) 5 v = fits Try.prog 3 v := by rw [partIs_of (o := 174) (T := 3) (by kernel_rfl)]; simp [msgPs, AV.sizes, AV.size, sizes_sub, sizes_rep]
theorem msgPs_6 {t0 t1 : Tk} {x : Msg} : (msgPs t0 t1 x)[6]? = some (.dig x.tag) := nr rfl
theorem msgAt_6 {t0 t1 : Tk} {x : Msg} {v : AV} : partIs Try.prog 74 (msgPs t0 t1 x) 6 v = fits Try.prog 65 v := by rw [partIs_of (o := 175) (T := 65) (by kernel_rfl)]; simp [msgPs, AV.sizes, AV.size, sizes_sub, sizes_rep]
theorem msgPs_7 {t0 t1 : Tk} {x : Msg} : (msgPs t0 t1 x)[7]? = some (.dig x.own) := nr rfl
theorem msgAt_7 {t0 t1 : Tk} {x : Msg} {v : AV} : partIs Try.prog 74 (msgPs t0 t1 x) 7 v = fits Try.prog 65 v := by rw [partIs_of (o := 207) (T := 65) (by kernel_rfl)]; simp [msgPs, AV.sizes, AV.size, sizes_sub, sizes_rep]
theorem msgPs_8 {t0 t1 : Tk} {x : Msg} : (msgPs t0 t1 x)[8]? = some (.agg (blobPs x.blob)) := nr rfl
theorem msgAt_8 {t0 t1 : Tk} {x : Msg} {v : AV} : partIs Try.prog 74 (msgPs t0 t1 x) 8 v = fits Try.prog 72 v := by rw [partIs_of (o := 239) (T := 72) (by kernel_rfl)]; simp [msgPs, AV.sizes, AV.size, sizes_sub, sizes_rep]
theorem msgPs_9 {t0 t1 : Tk} {x : Msg} : (msgPs t0 t1 x)[9]? = some (.slice t1 (x.nums.map (AV.int .i64))) := nr rfl
theorem msgAt_9 {t0 t1 : Tk} {x : Msg} {v : AV} : partIs Try.prog 74 (msgPs t0 t1 x) 9 v = fits Try.prog 50 v := by rw [partIs_of (o := 274) (T := 50) (by kernel_rfl)]; simp [msgPs, AV.sizes, AV.size, sizes_sub, sizes_rep, sizes_blob]
structure At where
  n : Int
  e : Int
end Go.Aff.L10

namespace Go.Aff.L21
open Go.Proofs Go.Aff Go.Aff.L01 Classical
set_option maxRecDepth 20000
attribute [local go_sem] push_app app_app length_app cellAt_app cellAt_app0 set_app set_app0 objs_app objs_app0 List.cons_append List.nil_append List.length_cons List.length_nil List.getElem?_cons_zero List.getElem?_cons_succ List.set_cons_zero List.set_cons_succ
attribute [-go_sem] cellAt_new
attribute [local go_sem] Try.underlying9 Try.underlying43 Try.underlying50
attribute [local go_sem] fits3 fits9
attribute [local go_sem ↓] blockQ_exit2
attribute [local go_sem] List.length_map
attribute [-simp] List.length_flatMap

def Goes (σ s : AST) (tk tk' : Tk) : Prop := s.objs = σ.objs ∧ ∀ σ0, Ext σ0 σ → tkNew σ0 tk → Ext σ0 s ∧ tkNew σ0 tk'
theorem Goes.refl {σ : AST} {tk : Tk} : Goes σ σ tk tk := ⟨rfl, fun _ h k => ⟨h, k⟩⟩
theorem Goes.grow {σ s : AST} {tk tk' : Tk} {n : Nat} (h : Goes σ s tk tk') : Goes σ (growS s tk' n 1) tk (growT s tk') := ⟨growS_objs.trans h.1, fun σ0 h0 k0 =>
  have ⟨h1, h2⟩ := h.2 σ0 h0 k0; ⟨h1.grow h2, h2.grow h1⟩⟩
theorem Goes.cell {σ s : AST} {tk tk' : Tk} {l : List AObj} {v : AV} (h : Goes (σ.app l) s tk tk') (hl : l[0]? = some (.cells v)) (p : List Nat) : cellAt s σ.objs.length p = v.at p := by
  simp only [cellAt, h.1]
  rw [objs_app0, hl]; rfl
theorem flatN {α : Type} {f : α → List UInt8} {l : List α} {m i : Nat} (h : ∀ x ∈ l, (f x).length ≤ m) : ((l.take i).flatMap f).length ≤ l.length * m := by
  have := flat_len (f := f) (m := m) (l := l.take i) (fun x hx => h x (List.mem_of_mem_take hx))
  have h2 : (l.take i).length * m ≤ l.length * m := Nat.mul_le_mul_right m (by simp; omega)
  omega
def InI (l : List Int) : Prop := ∀ n ∈ l, -9223372036854775808 ≤ n ∧ n ≤ 9223372036854775807
theorem numsN {l : List Int} (hl : InI l) : ∀ i, ((l.take i).flatMap numS).length ≤ l.length * 22 := fun i => flatN fun n hn => numS_len (hl n hn).1 (hl n hn).2

theorem Goes.gr {σ s σ0 : AST} {tk tk' : Tk} {n m : Nat} (h : Goes σ s tk tk') (hg : Gr σ0 σ tk n) (hc : canApp s tk' m 1) : Gr σ0 s tk' m := ⟨(h.2 σ0 hg.x hg.t).1, (h.2 σ0 hg.x hg.t).2, hc⟩
theorem intsB_c {xs : List UInt8} {l : List Int} {tk t2 : Tk} {σ : AST} {K : AV → AST → Prop} (hl : InI l) (hn : l.length ≤ 1000000) (hx : xs.length ≤ 1000000000) (hcan : canApp σ tk xs.length 1)
    (hK : ∀ s tk', Goes σ s tk tk' → canApp s tk' (xs ++ l.flatMap numS).length 1 → K (.slice tk' (u8s (xs ++ l.flatMap numS))) s) : TCalls Try.prog 100 [.slice tk (u8s xs), .slice t2 (l.map (AV.int .i64))] σ K := by
  have hN := numsN hl
  refine tcalls_walk Try.f100 _ [.tmp 4] Try.func100 rfl rfl rfl mixed (Nat.le_of_ble_eq_true rfl) rfl fun hlen => ?_
  simp -dsimp only [↓reduceIte, go_sem]
  refine arr_intro fun _ => ?_
  simp only [List.length_map]
  simp -dsimp only [↓reduceIte, go_sem]
  refine awp_rounds (fun (i : Nat) τ s => ∃ tk', i ≤ l.length ∧ Goes σ s tk tk' ∧ canApp s tk' (xs ++ (l.take i).flatMap numS).length 1 ∧ τ 0 = .slice tk' (u8s (xs ++ (l.take i).flatMap numS)) ∧ τ 7 = .slice t2 (l.map (AV.int .i64)) ∧ τ 8 = .int .i64 l.length ∧ τ 9 = .int .i64 i) (fun i => l.length - i) 0 ?_ ?_
  · refine ⟨tk, by omega, Goes.refl, by simpa using hcan, ?_, ?_, ?_, ?_⟩ <;> (try simp only [go_sem]) <;> (try rfl) <;> simp
  · rintro i τ s ⟨tk', hi, hg, hc, t0, t7, t8, t9⟩
    simp -dsimp only [↓reduceIte, go_sem, t0, t7, t8, t9]
    refine boolW_split (fun hb => ?_) (fun hb => ?_)
    · have hb : i < l.length := by simp at hb; omega
      obtain ⟨y, hy⟩ := get_lt hb
      have hyl := hl y (List.mem_of_getElem? hy)
      have h22 := numS_len hyl.1 hyl.2
      have hNi := hN i
      repeat' (first | (simp -dsimp only [↓reduceIte, go_sem, t0, t7, t8, t9]) | (refine arr_intro fun _ => ?_) | (refine later_intro ⟨keeps_nil, ?_⟩) | (refine later_intro ⟨keeps_refl, ?_⟩) | (with_reducible refine keeps_go ?_ ?_; focus (first | (simp [keeps_cons, keeps_none, objs_app, objs_app0]; done) | (simp only [keeps_cons, keeps_none, objs_app0, objs_app, and_true]; first | rfl | exact ⟨rfl, rfl⟩ | exact ⟨rfl, rfl, rfl⟩))) | (with_reducible refine (And.intro (a := keeps _ _ _) ?_ ?_); focus (first | (simp [keeps_cons, keeps_none, objs_app, objs_app0]; done) | (simp only [keeps_cons, keeps_none, objs_app0, objs_app, and_true]; first | rfl | exact ⟨rfl, rfl⟩ | exact ⟨rfl, rfl, rfl⟩))) | (refine both_ways ?_ ?_) | (rw [wrap_i64 (by omega) (by omega)]) | (refine guardV_split (fun h => ?_) (fun h => ?_) <;> (try rw [h]) <;> (try simp at h) <;> (try (exfalso; omega))) | (refine nth_get hy ?_) | (refine number_c hyl.1 hyl.2 ?_) | (refine append_text E51 Try.underlying9 hc (by simp only [List.length_append]; omega) (by simp only [maxL, List.length_append]; omega) ?_))
      have e : (l.take (i + 1)).flatMap numS = (l.take i).flatMap numS ++ numS y := flat_take hy
      refine later_intro ⟨i + 1, by omega, growT s tk', by omega, hg.grow, ?_, ?_, ?_, ?_, ?_⟩ <;> (try simp only [go_sem, t0, t7, t8, t9]) <;> (try rfl)
      · rw [e, ← List.append_assoc]; simp only [List.length_append]; exact canApp_grow hc
      · rw [e, List.append_assoc]
    · have hb : i = l.length := by simp at hb; omega
      rw [hb, List.take_length] at t0 hc
      repeat' (first | (simp -dsimp only [↓reduceIte, go_sem, t0, t7, t8, t9]) | (refine arr_intro fun _ => ?_) | (refine later_intro ⟨keeps_nil, ?_⟩) | (refine later_intro ⟨keeps_refl, ?_⟩) | (with_reducible refine keeps_go ?_ ?_; focus (first | (simp [keeps_cons, keeps_none, objs_app, objs_app0]; done) | (simp only [keeps_cons, keeps_none, objs_app0, objs_app, and_true]; first | rfl | exact ⟨rfl, rfl⟩ | exact ⟨rfl, rfl, rfl⟩))) | (with_reducible refine (And.intro (a := keeps _ _ _) ?_ ?_); focus (first | (simp [keeps_cons, keeps_none, objs_app, objs_app0]; done) | (simp only [keeps_cons, keeps_none, objs_app0, objs_app, and_true]; first | rfl | exact ⟨rfl, rfl⟩ | exact ⟨rfl, rfl, rfl⟩))) | (refine both_ways ?_ ?_) | (rw [wrap_i64 (by omega) (by omega)]) | (refine guardV_split (fun h => ?_) (fun h => ?_) <;> (try rw [h]) <;> (try simp at h) <;> (try (exfalso; omega))))
      exact hK _ _ hg hc

theorem Ints_c {l : List Int} {tk : Tk} {σ : AST} {K : AV → AST → Prop} (hl : InI l) (hn : l.length ≤ 1000000) (hK : K (.str (l.flatMap numS)) σ) : TCalls Try.prog 68 [.slice tk (l.map (AV.int .i64))] σ K := by
  have hN := numsN hl
  refine tcalls_walk Try.f68 _ [.tmp 2] Try.func68 rfl rfl rfl mixed (Nat.le_of_ble_eq_true rfl) rfl fun hlen => ?_
  simp -dsimp only [↓reduceIte, go_sem]
  refine awp_rounds (fun (i : Nat) τ s => s = σ ∧ i ≤ l.length ∧ τ 0 = .slice tk (l.map (AV.int .i64)) ∧ τ 3 = .str ((l.take i).flatMap numS) ∧ τ 4 = .int .i64 i) (fun i => l.length - i) 0 ?_ ?_
  · refine ⟨rfl, by omega, ?_, ?_, ?_⟩ <;> (try simp only [go_sem]) <;> rfl
  · rintro i τ s ⟨rfl, hi, t0, t3, t4⟩
    simp -dsimp only [↓reduceIte, go_sem, t0, t3, t4]
    refine arr_intro fun _ => ?_
    simp only [List.length_map]
    simp -dsimp only [↓reduceIte, go_sem, t0, t3, t4]
    refine boolW_split (fun hb => ?_) (fun hb => ?_)
    · have hb : i < l.length := by simp at hb; omega
      obtain ⟨y, hy⟩ := get_lt hb
      have hyl := hl y (List.mem_of_getElem? hy)
      have h22 := numS_len hyl.1 hyl.2
      have hNi := hN i
      repeat' (first | (simp -dsimp only [↓reduceIte, go_sem, t0, t3, t4]) | (refine arr_intro fun _ => ?_) | (refine later_intro ⟨keeps_nil, ?_⟩) | (refine later_intro ⟨keeps_refl, ?_⟩) | (with_reducible refine keeps_go ?_ ?_; focus (first | (simp [keeps_cons, keeps_none, objs_app, objs_app0]; done) | (simp only [keeps_cons, keeps_none, objs_app0, objs_app, and_true]; first | rfl | exact ⟨rfl, rfl⟩ | exact ⟨rfl, rfl, rfl⟩))) | (with_reducible refine (And.intro (a := keeps _ _ _) ?_ ?_); focus (first | (simp [keeps_cons, keeps_none, objs_app, objs_app0]; done) | (simp only [keeps_cons, keeps_none, objs_app0, objs_app, and_true]; first | rfl | exact ⟨rfl, rfl⟩ | exact ⟨rfl, rfl, rfl⟩))) | (refine both_ways ?_ ?_) | (rw [wrap_i64 (by omega) (by omega)]) | (refine guardV_split (fun h => ?_) (fun h => ?_) <;> (try rw [h]) <;> (try simp at h) <;> (try (exfalso; omega))) | (refine nth_get hy ?_) | (refine Number_c hyl.1 hyl.2 ?_) | (refine side_later (by simp only [maxL]; omega) ?_))
      refine later_intro ⟨i + 1, by omega, rfl, by omega, ?_, ?_, ?_⟩ <;> (try simp only [go_sem, t0, t3, t4, flat_take hy]) <;> rfl
    · have hb : i = l.length := by simp at hb; omega
      rw [hb, List.take_length] at t3
      repeat' (first | (simp -dsimp only [↓reduceIte, go_sem, t0, t3, t4]) | (refine arr_intro fun _ => ?_) | (refine later_intro ⟨keeps_nil, ?_⟩) | (refine later_intro ⟨keeps_refl, ?_⟩) | (with_reducible refine keeps_go ?_ ?_; focus (first | (simp [keeps_cons, keeps_none, objs_app, objs_app0]; done) | (simp only [keeps_cons, keeps_none, objs_app0, objs_app, and_true]; first | rfl | exact ⟨rfl, rfl⟩ | exact ⟨rfl, rfl, rfl⟩))) | (with_reducible refine (And.intro (a := keeps _ _ _) ?_ ?_); focus (first | (simp [keeps_cons, keeps_none, objs_app, objs_app0]; done) | (simp only [keeps_cons, keeps_none, objs_app0, objs_app, and_true]; first | rfl | exact ⟨rfl, rfl⟩ | exact ⟨rfl, rfl, rfl⟩))) | (refine both_ways ?_ ?_) | (rw [wrap_i64 (by omega) (by omega)]) | (refine guardV_split (fun h => ?_) (fun h => ?_) <;> (try rw [h]) <;> (try simp at h) <;> (try (exfalso; omega))))
      exact hK

theorem Text_c {s : List UInt8} {σ : AST} {K : AV → AST → Prop} (hn : s.length ≤ 1000000000) (hK : K (.str (textS s)) σ) : TCalls Try.prog 69 [.str s] σ K := by
  have h20 := dg_len20 (n := s.length) (by omega)
  refine tcalls_walk Try.f69 _ [.tmp 2] Try.func69 rfl rfl rfl mixed (Nat.le_of_ble_eq_true rfl) rfl fun hlen => ?_
  repeat' (first | (simp -dsimp only [↓reduceIte, go_sem]) | (refine arr_intro fun _ => ?_) | (refine later_intro ⟨keeps_nil, ?_⟩) | (refine later_intro ⟨keeps_refl, ?_⟩) | (with_reducible refine keeps_go ?_ ?_; focus (first | (simp [keeps_cons, keeps_none, objs_app, objs_app0]; done) | (simp only [keeps_cons, keeps_none, objs_app0, objs_app, and_true]; first | rfl | exact ⟨rfl, rfl⟩ | exact ⟨rfl, rfl, rfl⟩))) | (with_reducible refine (And.intro (a := keeps _ _ _) ?_ ?_); focus (first | (simp [keeps_cons, keeps_none, objs_app, objs_app0]; done) | (simp only [keeps_cons, keeps_none, objs_app0, objs_app, and_true]; first | rfl | exact ⟨rfl, rfl⟩ | exact ⟨rfl, rfl, rfl⟩))) | (refine both_ways ?_ ?_) | (rw [wrap_i64 (by omega) (by omega)]) | (refine guardV_split (fun h => ?_) (fun h => ?_) <;> (try rw [h]) <;> (try simp at h) <;> (try (exfalso; omega))) | (refine Digits_i (by omega) (by omega) ?_) | (refine side_later (by simp only [maxL, List.length_append, List.length_cons, List.length_nil, Int.toNat_natCast]; omega) ?_))
  exact hK

theorem Texts_c {l : List (List UInt8)} {tk : Tk} {σ : AST} {K : AV → AST → Prop} (hl : ∀ s ∈ l, s.length ≤ 1000) (hn : l.length ≤ 1000000) (hK : K (.str (laidAll textS l)) σ) : TCalls Try.prog 81 [.slice tk (l.map AV.str)] σ K := by
  have hN : ∀ i, ((l.take i).flatMap textS).length ≤ l.length * 1021 := fun i => flatN fun s hs => by
    have := hl s hs; have h2 := dg_len20 (n := s.length) (by omega); simp only [textS, List.length_append, List.length_cons, List.length_nil]; omega
  refine tcalls_walk Try.f81 _ [.tmp 2] Try.func81 rfl rfl rfl mixed (Nat.le_of_ble_eq_true rfl) rfl fun hlen => ?_
  simp -dsimp only [↓reduceIte, go_sem]
  refine awp_rounds (fun (i : Nat) τ s => s = σ ∧ i ≤ l.length ∧ τ 0 = .slice tk (l.map AV.str) ∧ τ 3 = .str (L01.part textS l i) ∧ τ 4 = .int .i64 i) (fun i => l.length - i) 0 ?_ ?_
  · refine ⟨rfl, by omega, ?_, ?_, ?_⟩ <;> (try simp only [go_sem]) <;> rfl
  · rintro i τ s ⟨rfl, hi, t0, t3, t4⟩
    have hNi := hN i
    have hp : (L01.part textS l i).length ≤ 1 + l.length * 1021 := by simp only [L01.part, List.length_cons]; omega
    simp -dsimp only [↓reduceIte, go_sem, t0, t3, t4]
    refine arr_intro fun _ => ?_
    simp only [List.length_map]
    simp -dsimp only [↓reduceIte, go_sem, t0, t3, t4]
    refine boolW_split (fun hb => ?_) (fun hb => ?_)
    · have hb : i < l.length := by simp at hb; omega
      obtain ⟨y, hy⟩ := get_lt hb
      have hyl := hl y (List.mem_of_getElem? hy)
      have h2 := dg_len20 (n := y.length) (by omega)
      repeat' (first | (simp -dsimp only [↓reduceIte, go_sem, t0, t3, t4]) | (refine arr_intro fun _ => ?_) | (refine later_intro ⟨keeps_nil, ?_⟩) | (refine later_intro ⟨keeps_refl, ?_⟩) | (with_reducible refine keeps_go ?_ ?_; focus (first | (simp [keeps_cons, keeps_none, objs_app, objs_app0]; done) | (simp only [keeps_cons, keeps_none, objs_app0, objs_app, and_true]; first | rfl | exact ⟨rfl, rfl⟩ | exact ⟨rfl, rfl, rfl⟩))) | (with_reducible refine (And.intro (a := keeps _ _ _) ?_ ?_); focus (first | (simp [keeps_cons, keeps_none, objs_app, objs_app0]; done) | (simp only [keeps_cons, keeps_none, objs_app0, objs_app, and_true]; first | rfl | exact ⟨rfl, rfl⟩ | exact ⟨rfl, rfl, rfl⟩))) | (refine both_ways ?_ ?_) | (rw [wrap_i64 (by omega) (by omega)]) | (refine guardV_split (fun h => ?_) (fun h => ?_) <;> (try rw [h]) <;> (try simp at h) <;> (try (exfalso; omega))) | (refine nth_get hy ?_) | (refine Text_c (by omega) ?_) | (refine side_later (by simp only [maxL, textS, List.length_append, List.length_cons, List.length_nil]; omega) ?_))
      refine later_intro ⟨i + 1, by omega, rfl, by omega, ?_, ?_, ?_⟩ <;> (try simp only [go_sem, t0, t3, t4, part_succ hy]) <;> rfl
    · have hb : i = l.length := by simp at hb; omega
      rw [hb] at t3 hp
      repeat' (first | (simp -dsimp only [↓reduceIte, go_sem, t0, t3, t4]) | (refine arr_intro fun _ => ?_) | (refine later_intro ⟨keeps_nil, ?_⟩) | (refine later_intro ⟨keeps_refl, ?_⟩) | (with_reducible refine keeps_go ?_ ?_; focus (first | (simp [keeps_cons, keeps_none, objs_app, objs_app0]; done) | (simp only [keeps_cons, keeps_none, objs_app0, objs_app, and_true]; first | rfl | exact ⟨rfl, rfl⟩ | exact ⟨rfl, rfl, rfl⟩))) | (with_reducible refine (And.intro (a := keeps _ _ _) ?_ ?_); focus (first | (simp [keeps_cons, keeps_none, objs_app, objs_app0]; done) | (simp only [keeps_cons, keeps_none, objs_app0, objs_app, and_true]; first | rfl | exact ⟨rfl, rfl⟩ | exact ⟨rfl, rfl, rfl⟩))) | (refine both_ways ?_ ?_) | (rw [wrap_i64 (by omega) (by omega)]) | (refine guardV_split (fun h => ?_) (fun h => ?_) <;> (try rw [h]) <;> (try simp at h) <;> (try (exfalso; omega))) | (refine side_later (by simp only [maxL, List.length_append, List.length_cons, List.length_nil]; omega) ?_))
      exact hK
end Go.Aff.L21

