import Derived.Test.YtpafajjginndcaaG19

/- Layer 21, walked: the reference's names; bounds; leaves that may be. -/
namespace Go.Aff.L21
open Go.Proofs Go.Aff Go.Aff.L01 Classical
set_option linter.unusedVariables false
set_option linter.unusedSimpArgs false
attribute [local go_sem] push_app app_app length_app cellAt_app cellAt_app0 set_app set_app0 objs_app objs_app0 List.cons_append List.nil_append List.length_cons List.length_nil List.getElem?_cons_zero List.getElem?_cons_succ List.set_cons_zero List.set_cons_succ
attribute [-go_sem] cellAt_new
attribute [local go_sem] Try.underlying3 fits4 Try.underlying4 fits5 Try.underlying5 Try.underlying9 fits22 Try.underlying22 fits23 Try.underlying23 fits29 Try.underlying29 fits43 Try.underlying43 fits44 Try.underlying44 fits46 p46_0 p46_1 p46_2 p46_3 p46_4 p46_5 Try.underlying46 fits64 p64_0 p64_1 Try.underlying64
attribute [local go_sem] fits3 fits9

attribute [local go_sem ↓] blockQ_exit2
theorem Name_c {s : List UInt8} {σ : AST} {K : AV → AST → Prop} (hK : K (.bool (nameB s)) σ) : TCalls Try.prog 51 [.str s] σ K := by
  refine tcalls_walk Try.f51 _ [.tmp 2] Try.func51 rfl rfl rfl mixed (Nat.le_of_ble_eq_true rfl) rfl fun hlen => ?_
  have hsl : s.length ≤ 9223372036854775807 := hlen (.str s) (by simp)
  have bad : ¬ (s ≠ [] ∧ s.length ≤ 12 ∧ s ≠ [46] ∧ s ≠ [46, 46] ∧ ∀ b ∈ s, letterB b = true) → K (.bool false) σ := fun h => by
    rw [nameB, decide_eq_false h] at hK; exact hK
  simp -dsimp only [↓reduceIte, go_sem]
  refine awp_rounds (fun (i : Nat) τ s' => s' = σ ∧ i ≤ s.length ∧ (∀ j c, j < i → s[j]? = some c → letterB c = true) ∧ τ 0 = .str s ∧ τ 3 = .int .i64 i) (fun i => s.length - i) 0 ?_ ?_
  · refine ⟨rfl, by omega, fun j c h => by omega, ?_, ?_⟩ <;> (try simp only [go_sem]) <;> rfl
  · rintro i τ s' ⟨rfl, hi, hall, t0, t3⟩
    simp -dsimp only [↓reduceIte, go_sem, t0, t3]
    refine arr_intro fun _ => ?_
    simp -dsimp only [↓reduceIte, go_sem, t0, t3]
    refine boolW_split (fun hb => ?_) (fun hb => ?_)
    · have hb : i < s.length := by simp at hb; omega
      obtain ⟨b, hb1⟩ := get_lt hb
      have hmem : b ∈ s := List.mem_iff_getElem?.2 ⟨i, hb1⟩
      simp -dsimp only [↓reduceIte, go_sem, t0, t3]
      refine nth_get hb1 ?_
      simp -dsimp only [↓reduceIte, go_sem, t0, t3]
      refine letter_c ?_
      simp -dsimp only [↓reduceIte, go_sem, t0, t3]
      refine boolW_split (fun hl => ?_) (fun hl => ?_)
      · have hl : letterB b = false := by simpa using hl
        simp -dsimp only [↓reduceIte, go_sem, t0, t3]
        exact bad (fun h => by have := h.2.2.2.2 b hmem; rw [hl] at this; cases this)
      · have hl : letterB b = true := by simpa using hl
        simp -dsimp only [↓reduceIte, go_sem, t0, t3]
        rw [wrap_i64 (by omega) (by omega)]
        refine later_intro ⟨i + 1, by omega, rfl, by omega, ?_, ?_, ?_⟩ <;> (try simp only [go_sem, t0, t3]) <;> (try rfl)
        intro j c hj hc
        by_cases hji : j < i
        · exact hall j c hji hc
        · obtain rfl : j = i := by omega
          rw [hb1] at hc; cases hc; exact hl
    · have hb : i = s.length := by simp at hb; omega
      have ha : ∀ b ∈ s, letterB b = true := fun b hb2 => by
        obtain ⟨j, hj⟩ := List.mem_iff_getElem?.1 hb2
        exact hall j b (by have := (List.getElem?_eq_some_iff.1 hj).1; omega) hj
      simp -dsimp only [↓reduceIte, go_sem, t0, t3]
      refine arr_intro fun _ => ?_
      simp -dsimp only [↓reduceIte, go_sem, t0, t3]
      refine guardV_split (fun h1 => ?_) (fun h1 => ?_) <;> (try rw [h1])
      · have h1 : s ≠ [] := by rintro rfl; simp at h1
        simp -dsimp only [↓reduceIte, go_sem, t0, t3]
        refine arr_intro fun _ => ?_
        simp -dsimp only [↓reduceIte, go_sem, t0, t3]
        refine guardV_split (fun h2 => ?_) (fun h2 => ?_) <;> (try rw [h2])
        · have h2 : s.length ≤ 12 := by simp at h2; omega
          simp -dsimp only [↓reduceIte, go_sem, t0, t3]
          refine guardV_split (fun h3 => ?_) (fun h3 => ?_) <;> (try rw [h3])
          · have h3 : s ≠ [46] := by simpa using h3
            simp -dsimp only [↓reduceIte, go_sem, t0, t3]
            rw [show nameB s = (!(s == [46, 46])) by
              rw [nameB]
              by_cases h4 : s = [46, 46]
              · rw [decide_eq_false (fun h => h.2.2.2.1 h4)]; simp [h4]
              · rw [decide_eq_true ⟨h1, h2, h3, h4, ha⟩]; simp [h4]] at hK
            exact hK
          · have h3 : s = [46] := by simpa using h3
            simp -dsimp only [↓reduceIte, go_sem, t0, t3]
            exact bad (fun h => h.2.2.1 h3)
        · have h2 : ¬ s.length ≤ 12 := by simp at h2; omega
          simp -dsimp only [↓reduceIte, go_sem, t0, t3]
          exact bad (fun h => h2 h.2.1)
      · have h1 : s = [] := by
          cases s with
          | nil => rfl
          | cons b r => simp at h1; omega
        simp -dsimp only [↓reduceIte, go_sem, t0, t3]
        exact bad (fun h => h.1 h1)

theorem all_c {l : List Int} {lo hi : Int} {tk : Tk} {σ : AST} {K : AV → AST → Prop} (hK : K (.bool (decide (AllIn lo hi l))) σ) : TCalls Try.prog 50 [.slice tk (l.map (AV.int .i64)), .int .i64 lo, .int .i64 hi] σ K := by
  refine tcalls_walk Try.f50 _ [.tmp 6] Try.func50 rfl rfl rfl mixed (Nat.le_of_ble_eq_true rfl) rfl fun hlen => ?_
  have bad : ∀ n ∈ l, ¬ (lo ≤ n ∧ n ≤ hi) → K (.bool false) σ := fun n hn h => by
    rw [decide_eq_false (fun ha => h (ha n hn))] at hK; exact hK
  simp -dsimp only [↓reduceIte, go_sem]
  refine awp_rounds (fun (i : Nat) τ s' => s' = σ ∧ i ≤ l.length ∧ (∀ j c, j < i → l[j]? = some c → lo ≤ c ∧ c ≤ hi) ∧ τ 0 = .slice tk (l.map (AV.int .i64)) ∧ τ 1 = .int .i64 lo ∧ τ 2 = .int .i64 hi ∧ τ 7 = .int .i64 i) (fun i => l.length - i) 0 ?_ ?_
  · refine ⟨rfl, by omega, fun j c h => by omega, ?_, ?_, ?_, ?_⟩ <;> (try simp only [go_sem]) <;> rfl
  · rintro i τ s' ⟨rfl, hi', hall, t0, t1, t2, t7⟩
    simp -dsimp only [↓reduceIte, go_sem, t0, t1, t2, t7]
    refine arr_intro fun _ => ?_
    simp only [List.length_map]
    simp -dsimp only [↓reduceIte, go_sem, t0, t1, t2, t7]
    have hll : l.length ≤ 9223372036854775807 := by
      have := ‹(l.map (AV.int .i64)).length ≤ maxL›
      simpa [maxL] using this
    refine boolW_split (fun hb => ?_) (fun hb => ?_)
    · have hb : i < l.length := by simp at hb; omega
      obtain ⟨n, hn⟩ := get_lt hb
      have hmem : n ∈ l := List.mem_iff_getElem?.2 ⟨i, hn⟩
      simp -dsimp only [↓reduceIte, go_sem, t0, t1, t2, t7]
      refine nth_get hn ?_
      simp -dsimp only [↓reduceIte, go_sem, t0, t1, t2, t7]
      refine guardV_split (fun h1 => ?_) (fun h1 => ?_) <;> (try rw [h1])
      · have h1 : lo ≤ n := by simp at h1; omega
        simp -dsimp only [↓reduceIte, go_sem, t0, t1, t2, t7]
        refine nth_get hn ?_
        simp -dsimp only [↓reduceIte, go_sem, t0, t1, t2, t7]
        refine boolW_split (fun h2 => ?_) (fun h2 => ?_)
        · have h2 : hi < n := by simpa using h2
          simp -dsimp only [↓reduceIte, go_sem, t0, t1, t2, t7]
          exact bad n hmem (by omega)
        · have h2 : n ≤ hi := by simp at h2; omega
          simp -dsimp only [↓reduceIte, go_sem, t0, t1, t2, t7]
          rw [wrap_i64 (by omega) (by omega)]
          refine later_intro ⟨i + 1, by omega, rfl, by omega, ?_, ?_, ?_, ?_, ?_⟩ <;> (try simp only [go_sem, t0, t1, t2, t7]) <;> (try rfl)
          intro j c hj hc
          by_cases hji : j < i
          · exact hall j c hji hc
          · obtain rfl : j = i := by omega
            rw [hn] at hc; cases hc; exact ⟨h1, h2⟩
      · have h1 : n < lo := by simp at h1; omega
        simp -dsimp only [↓reduceIte, go_sem, t0, t1, t2, t7]
        exact bad n hmem (by omega)
    · have hb : i = l.length := by simp at hb; omega
      rw [decide_eq_true (show AllIn lo hi l from fun n hn => by
        obtain ⟨j, hj⟩ := List.mem_iff_getElem?.1 hn
        exact hall j n (by have := (List.getElem?_eq_some_iff.1 hj).1; omega) hj)] at hK
      simp -dsimp only [↓reduceIte, go_sem, t0, t1, t2, t7]
      exact hK
end Go.Aff.L21

/- Layer 21, walked: leaves that may be. -/
namespace Go.Aff.L21
open Go.Proofs Go.Aff Go.Aff.L01 Classical
set_option linter.unusedVariables false
set_option linter.unusedSimpArgs false
attribute [local go_sem] push_app app_app length_app cellAt_app cellAt_app0 set_app set_app0 objs_app objs_app0 List.cons_append List.nil_append List.length_cons List.length_nil List.getElem?_cons_zero List.getElem?_cons_succ List.set_cons_zero List.set_cons_succ
attribute [-go_sem] cellAt_new
attribute [local go_sem] Try.underlying3 fits4 Try.underlying4 fits5 Try.underlying5 Try.underlying9 fits22 Try.underlying22 fits23 Try.underlying23 fits29 Try.underlying29 fits43 Try.underlying43 fits44 Try.underlying44 fits46 p46_0 p46_1 p46_2 p46_3 p46_4 p46_5 Try.underlying46 fits64 p64_0 p64_1 Try.underlying64
attribute [local go_sem] fits3 fits9

attribute [local go_sem ↓] blockQ_exit2
structure TLeaf where
  x : Leaf
  t1 : Tk
  t2 : Tk
  t3 : Tk
def leafV (y : TLeaf) : AV := .agg [.int .i64 y.x.num, .int .i64 y.x.kind, .int .i64 y.x.size, .slice y.t1 (y.x.blocks.map (AV.int .i64)), .slice y.t2 (y.x.names.map AV.str), .slice y.t3 (y.x.nodes.map (AV.int .i64))]

theorem right_c {y : TLeaf} {σ : AST} {K : AV → AST → Prop} (hK : K (.bool (decide y.x.Right)) σ) : TCalls Try.prog 45 [leafV y] σ K := by
  refine TCalls.drop ?_
  obtain ⟨x, q1, q2, q3⟩ := y
  unfold leafV
  dsimp only at hK ⊢
  refine tcalls_walk Try.f45 _ [.tmp 2] Try.func45 rfl rfl rfl mixed (Nat.le_of_ble_eq_true rfl) rfl fun hlen => ?_
  have bad : ∀ s, Ext σ s → ¬ x.Right → Ext σ s ∧ (AV.bool false).noRef = true ∧ K (AV.bool false).strip σ := fun s hx h => by
    rw [decide_eq_false h] at hK; exact ⟨hx, rfl, hK⟩
  simp -dsimp only [↓reduceIte, go_sem]
  refine guardV_split (fun h1 => ?_) (fun h1 => ?_) <;> (try rw [h1])
  · have h1 : 1 ≤ x.num := by simp at h1; omega
    simp -dsimp only [↓reduceIte, go_sem]
    refine boolW_split (fun h2 => ?_) (fun h2 => ?_)
    · have h2 : ¬ x.num ≤ 32 := by simp at h2; omega
      simp -dsimp only [↓reduceIte, go_sem]
      exact bad _ (Ext.app _ _) (fun h => h2 h.2.1)
    · have h2 : x.num ≤ 32 := by simp at h2; omega
      simp -dsimp only [↓reduceIte, go_sem]
      refine boolW_split (fun h3 => ?_) (fun h3 => ?_)
      · have h3 : x.kind = 2 := by simpa using h3
        have hR : x.Right ↔ x.File := ⟨fun h => by rcases h.2.2 with h | h; exact h.2; have := h.1; omega, fun h => ⟨h1, h2, .inl ⟨h3, h⟩⟩⟩
        simp -dsimp only [↓reduceIte, go_sem]
        refine arr_intro fun _ => ?_
        simp only [List.length_map]
        simp -dsimp only [↓reduceIte, go_sem]
        have hbl : x.blocks.length ≤ 9223372036854775807 := by
          have := ‹(x.blocks.map (AV.int .i64)).length ≤ maxL›
          simpa [maxL] using this
        generalize hV : AV.agg [.int .i64 x.num, .int .i64 x.kind, .int .i64 x.size, .slice q1 (x.blocks.map (AV.int .i64)), .slice q2 (x.names.map AV.str), .slice q3 (x.nodes.map (AV.int .i64))] = V
        refine awp_rounds (fun (i : Nat) τ s' => s' = σ.app [.cells V] ∧ i ≤ x.blocks.length ∧ (∀ j c, j < i → x.blocks[j]? = some c → 0 ≤ c ∧ c ≤ 1099511627776) ∧ τ 1 = .ptr (some (σ.objs.length, [])) ∧ τ 22 = .slice q1 (x.blocks.map (AV.int .i64)) ∧ τ 23 = .int .i64 x.blocks.length ∧ τ 24 = .int .i64 i) (fun i => x.blocks.length - i) 0 ?_ ?_
        · refine ⟨rfl, by omega, fun j c h => by omega, ?_, ?_, ?_, ?_⟩ <;> (try simp only [go_sem]) <;> rfl
        · rintro i τ s' ⟨rfl, hi, hall, u1, u22, u23, u24⟩
          subst hV
          simp -dsimp only [↓reduceIte, go_sem, u1, u22, u23, u24]
          refine boolW_split (fun hb => ?_) (fun hb => ?_)
          · have hb : i < x.blocks.length := by simp at hb; omega
            obtain ⟨n, hn⟩ := get_lt hb
            have hmem : n ∈ x.blocks := List.mem_iff_getElem?.2 ⟨i, hn⟩
            simp -dsimp only [↓reduceIte, go_sem, u1, u22, u23, u24]
            refine nth_get hn ?_
            simp -dsimp only [↓reduceIte, go_sem, u1, u22, u23, u24]
            refine guardV_split (fun c1 => ?_) (fun c1 => ?_) <;> (try rw [c1])
            · have c1 : 0 ≤ n := by simp at c1; omega
              simp -dsimp only [↓reduceIte, go_sem, u1, u22, u23, u24]
              refine boolW_split (fun c2 => ?_) (fun c2 => ?_)
              · have c2 : ¬ n ≤ 1099511627776 := by simp at c2; omega
                simp -dsimp only [↓reduceIte, go_sem, u1, u22, u23, u24]
                exact bad _ (Ext.app _ _) (fun h => c2 ((hR.1 h).1 n hmem).2)
              · have c2 : n ≤ 1099511627776 := by simp at c2; omega
                simp -dsimp only [↓reduceIte, go_sem, u1, u22, u23, u24]
                rw [wrap_i64 (by omega) (by omega)]
                refine later_intro ⟨i + 1, by omega, rfl, by omega, ?_, ?_, ?_, ?_, ?_⟩ <;> (try simp only [go_sem, u1, u22, u23, u24]) <;> (try rfl)
                intro j c hj hc
                by_cases hji : j < i
                · exact hall j c hji hc
                · obtain rfl : j = i := by omega
                  rw [hn] at hc; cases hc; exact ⟨c1, c2⟩
            · have c1 : ¬ 0 ≤ n := by simp at c1; omega
              simp -dsimp only [↓reduceIte, go_sem, u1, u22, u23, u24]
              exact bad _ (Ext.app _ _) (fun h => c1 ((hR.1 h).1 n hmem).1)
          · have hb : i = x.blocks.length := by simp at hb; omega
            have ha : AllIn 0 1099511627776 x.blocks := fun n hn => by
              obtain ⟨j, hj⟩ := List.mem_iff_getElem?.1 hn
              exact hall j n (by have := (List.getElem?_eq_some_iff.1 hj).1; omega) hj
            simp -dsimp only [↓reduceIte, go_sem, u1, u22, u23, u24]
            refine awp_drawS (id := 11) [0, 1, 2, 3, 4, 5, 6, 7, 8, 9, 10, 11, 12, 13, 14, 15, 16, 17, 18, 19, 20, 21, 22, 23, 24, 25, 26, 27] (by kernel_rfl) ?_
            simp -dsimp only [↓reduceIte, go_sem, u1, u22, u23, u24]
            refine guardV_split (fun c1 => ?_) (fun c1 => ?_) <;> (try rw [c1])
            · have c1 : 0 ≤ x.size := by simp at c1; omega
              simp -dsimp only [↓reduceIte, go_sem, u1, u22, u23, u24]
              refine guardV_split (fun c2 => ?_) (fun c2 => ?_) <;> (try rw [c2])
              · have c2 : x.size ≤ 512 := by simp at c2; omega
                obtain ⟨sz, hsz⟩ : ∃ sz : Nat, x.size = sz := ⟨x.size.toNat, by omega⟩
                simp -dsimp only [↓reduceIte, go_sem, u1, u22, u23, u24]
                refine arr_intro fun _ => ?_
                simp only [List.length_map]
                rw [hsz]
                simp -dsimp only [↓reduceIte, go_sem, u1, u22, u23, u24]
                refine many_c (by omega) ?_
                simp -dsimp only [↓reduceIte, go_sem, u1, u22, u23, u24]
                refine guardV_split (fun c3 => ?_) (fun c3 => ?_) <;> (try rw [c3])
                · have c3 : x.blocks.length = (sz + 31) / 32 := by simp at c3; omega
                  simp -dsimp only [↓reduceIte, go_sem, u1, u22, u23, u24]
                  refine arr_intro fun _ => ?_
                  simp only [List.length_map]
                  simp -dsimp only [↓reduceIte, go_sem, u1, u22, u23, u24]
                  refine arr_intro fun _ => ?_
                  simp only [List.length_map]
                  simp -dsimp only [↓reduceIte, go_sem, u1, u22, u23, u24]
                  have hnl : x.names.length ≤ 9223372036854775807 := by
                    have := ‹(x.names.map AV.str).length ≤ maxL›
                    simpa [maxL] using this
                  have hdl : x.nodes.length ≤ 9223372036854775807 := by
                    have := ‹(x.nodes.map (AV.int .i64)).length ≤ maxL›
                    simpa [maxL] using this
                  refine ⟨Ext.app _ _, rfl, ?_⟩
                  simp only [AV.strip]
                  have e : decide x.Right = (IntKind.i64.wrap ((x.names.length : Int) + (x.nodes.length : Int)) == 0) := by
                    rw [Bool.eq_iff_iff]
                    simp only [decide_eq_true_eq, beq_iff_eq]
                    rw [hR, IntKind.wrap_i64]
                    constructor
                    · intro h
                      rw [h.2.2.2.2.1, h.2.2.2.2.2]; rfl
                    · intro h
                      have h5 : x.names.length = 0 ∧ x.nodes.length = 0 := by omega
                      exact ⟨ha, c1, c2, by omega, List.length_eq_zero_iff.1 h5.1, List.length_eq_zero_iff.1 h5.2⟩
                  rw [e] at hK
                  exact hK
                · have c3 : x.blocks.length ≠ (sz + 31) / 32 := by simp at c3; omega
                  simp -dsimp only [↓reduceIte, go_sem, u1, u22, u23, u24]
                  exact bad _ (Ext.app _ _) (fun h => c3 (by have := (hR.1 h).2.2.2.1; omega))
              · have c2 : ¬ x.size ≤ 512 := by simp at c2; omega
                simp -dsimp only [↓reduceIte, go_sem, u1, u22, u23, u24]
                exact bad _ (Ext.app _ _) (fun h => c2 (hR.1 h).2.2.1)
            · have c1 : ¬ 0 ≤ x.size := by simp at c1; omega
              simp -dsimp only [↓reduceIte, go_sem, u1, u22, u23, u24]
              exact bad _ (Ext.app _ _) (fun h => c1 (hR.1 h).2.1)
      · have h3 : x.kind ≠ 2 := by simpa using h3
        simp -dsimp only [↓reduceIte, go_sem]
        refine boolW_split (fun h4 => ?_) (fun h4 => ?_)
        · have h4 : x.kind = 1 := by simpa using h4
          have hR : x.Right ↔ x.Dir := ⟨fun h => by rcases h.2.2 with h | h; (have := h.1; omega); exact h.2, fun h => ⟨h1, h2, .inr ⟨h4, h⟩⟩⟩
          simp -dsimp only [↓reduceIte, go_sem]
          refine arr_intro fun _ => ?_
          simp only [List.length_map]
          simp -dsimp only [↓reduceIte, go_sem]
          have hnl : x.names.length ≤ 9223372036854775807 := by
            have := ‹(x.names.map AV.str).length ≤ maxL›
            simpa [maxL] using this
          have badn : ∀ s (i : Nat) t, Ext σ s → x.names[i]? = some t → ¬ (nameB t = true ∧ ∀ t', 0 < i → x.names[i - 1]? = some t' → leqS t t' = false) → Ext σ s ∧ (AV.bool false).noRef = true ∧ K (AV.bool false).strip σ := fun s i t hx ht h => bad s hx (fun hr => h ((hR.1 hr).1 i t ht))
          generalize hV : AV.agg [.int .i64 x.num, .int .i64 x.kind, .int .i64 x.size, .slice q1 (x.blocks.map (AV.int .i64)), .slice q2 (x.names.map AV.str), .slice q3 (x.nodes.map (AV.int .i64))] = V
          refine awp_rounds (fun (i : Nat) τ s' => s' = σ.app [.cells V] ∧ i ≤ x.names.length ∧ (∀ (j : Nat) t, j < i → x.names[j]? = some t → nameB t = true ∧ ∀ t', 0 < j → x.names[j - 1]? = some t' → leqS t t' = false) ∧ τ 1 = .ptr (some (σ.objs.length, [])) ∧ τ 65 = .slice q2 (x.names.map AV.str) ∧ τ 66 = .int .i64 x.names.length ∧ τ 67 = .int .i64 i) (fun i => x.names.length - i) 0 ?_ ?_
          · refine ⟨rfl, by omega, fun j c h => by omega, ?_, ?_, ?_, ?_⟩ <;> (try simp only [go_sem]) <;> rfl
          · rintro i τ s' ⟨rfl, hi, hall, u1, u65, u66, u67⟩
            subst hV
            simp -dsimp only [↓reduceIte, go_sem, u1, u65, u66, u67]
            refine boolW_split (fun hb => ?_) (fun hb => ?_)
            · have hb : i < x.names.length := by simp at hb; omega
              obtain ⟨t, ht⟩ := get_lt hb
              have step : (nameB t = true ∧ ∀ t', 0 < i → x.names[i - 1]? = some t' → leqS t t' = false) → ∀ (j : Nat) t, j < i + 1 → x.names[j]? = some t → nameB t = true ∧ ∀ t', 0 < j → x.names[j - 1]? = some t' → leqS t t' = false := fun h j t2 hj ht2 => by
                by_cases hji : j < i
                · exact hall j t2 hji ht2
                · obtain rfl : j = i := by omega
                  rw [ht] at ht2; cases ht2; exact h
              simp -dsimp only [↓reduceIte, go_sem, u1, u65, u66, u67]
              refine nth_get ht ?_
              simp -dsimp only [↓reduceIte, go_sem, u1, u65, u66, u67]
              refine name_c ?_
              simp -dsimp only [↓reduceIte, go_sem, u1, u65, u66, u67]
              refine guardV_split (fun c1 => ?_) (fun c1 => ?_) <;> (try rw [c1])
              · have c1 : nameB t = true := by simpa using c1
                simp -dsimp only [↓reduceIte, go_sem, u1, u65, u66, u67]
                refine guardV_split (fun c2 => ?_) (fun c2 => ?_) <;> (try rw [c2])
                · have c2 : 0 < i := by simp at c2; omega
                  obtain ⟨t', ht'⟩ := get_lt (l := x.names) (i := i - 1) (by omega)
                  simp -dsimp only [↓reduceIte, go_sem, u1, u65, u66, u67]
                  rw [wrap_i64 (n := (i : Int) - 1) (by omega) (by omega), show (i : Int) - 1 = ((i - 1 : Nat) : Int) by omega]
                  refine nth_get ht' ?_
                  simp -dsimp only [↓reduceIte, go_sem, u1, u65, u66, u67]
                  refine boolW_split (fun c3 => ?_) (fun c3 => ?_)
                  · have c3 : leqS t t' = true := c3
                    simp -dsimp only [↓reduceIte, go_sem, u1, u65, u66, u67]
                    exact badn _ i t (Ext.app _ _) ht (fun h => by have := h.2 t' c2 ht'; rw [c3] at this; cases this)
                  · have c3 : leqS t t' = false := c3
                    simp -dsimp only [↓reduceIte, go_sem, u1, u65, u66, u67]
                    rw [wrap_i64 (by omega) (by omega)]
                    refine later_intro ⟨i + 1, by omega, rfl, by omega, step ⟨c1, fun t2 _ h2 => by rw [ht'] at h2; cases h2; exact c3⟩, ?_, ?_, ?_, ?_⟩ <;> (try simp only [go_sem, u1, u65, u66, u67]) <;> rfl
                · have c2 : i = 0 := by simp at c2; omega
                  simp -dsimp only [↓reduceIte, go_sem, u1, u65, u66, u67]
                  rw [wrap_i64 (by omega) (by omega)]
                  refine later_intro ⟨i + 1, by omega, rfl, by omega, step ⟨c1, fun t2 h _ => by omega⟩, ?_, ?_, ?_, ?_⟩ <;> (try simp only [go_sem, u1, u65, u66, u67]) <;> rfl
              · have c1 : nameB t = false := by simpa using c1
                simp -dsimp only [↓reduceIte, go_sem, u1, u65, u66, u67]
                exact badn _ i t (Ext.app _ _) ht (fun h => by have := h.1; rw [c1] at this; cases this)
            · have hb : i = x.names.length := by simp at hb; omega
              have hnames : NamesOk x.names := fun j t hj => hall j t (by have := (List.getElem?_eq_some_iff.1 hj).1; omega) hj
              simp -dsimp only [↓reduceIte, go_sem, u1, u65, u66, u67]
              refine arr_intro fun _ => ?_
              simp only [List.length_map]
              simp -dsimp only [↓reduceIte, go_sem, u1, u65, u66, u67]
              have hdl : x.nodes.length ≤ 9223372036854775807 := by
                have := ‹(x.nodes.map (AV.int .i64)).length ≤ maxL›
                simpa [maxL] using this
              generalize hV : AV.agg [.int .i64 x.num, .int .i64 x.kind, .int .i64 x.size, .slice q1 (x.blocks.map (AV.int .i64)), .slice q2 (x.names.map AV.str), .slice q3 (x.nodes.map (AV.int .i64))] = V
              refine awp_rounds (fun (i : Nat) τ s' => s' = σ.app [.cells V] ∧ i ≤ x.nodes.length ∧ (∀ j c, j < i → x.nodes[j]? = some c → 1 ≤ c ∧ c ≤ 32) ∧ τ 1 = .ptr (some (σ.objs.length, [])) ∧ τ 91 = .slice q3 (x.nodes.map (AV.int .i64)) ∧ τ 92 = .int .i64 x.nodes.length ∧ τ 93 = .int .i64 i) (fun i => x.nodes.length - i) 0 ?_ ?_
              · refine ⟨rfl, by omega, fun j c h => by omega, ?_, ?_, ?_, ?_⟩ <;> (try simp only [go_sem, u1]) <;> rfl
              · rintro i' τ' s'' ⟨rfl, hi', hall', v1, v91, v92, v93⟩
                subst hV
                simp -dsimp only [↓reduceIte, go_sem, v1, v91, v92, v93]
                refine boolW_split (fun hb2 => ?_) (fun hb2 => ?_)
                · have hb2 : i' < x.nodes.length := by simp at hb2; omega
                  obtain ⟨n, hn⟩ := get_lt hb2
                  have hmem : n ∈ x.nodes := List.mem_iff_getElem?.2 ⟨i', hn⟩
                  simp -dsimp only [↓reduceIte, go_sem, v1, v91, v92, v93]
                  refine nth_get hn ?_
                  simp -dsimp only [↓reduceIte, go_sem, v1, v91, v92, v93]
                  refine guardV_split (fun c1 => ?_) (fun c1 => ?_) <;> (try rw [c1])
                  · have c1 : 1 ≤ n := by simp at c1; omega
                    simp -dsimp only [↓reduceIte, go_sem, v1, v91, v92, v93]
                    refine boolW_split (fun c2 => ?_) (fun c2 => ?_)
                    · have c2 : ¬ n ≤ 32 := by simp at c2; omega
                      simp -dsimp only [↓reduceIte, go_sem, v1, v91, v92, v93]
                      exact bad _ (Ext.app _ _) (fun h => c2 ((hR.1 h).2.1 n hmem).2)
                    · have c2 : n ≤ 32 := by simp at c2; omega
                      simp -dsimp only [↓reduceIte, go_sem, v1, v91, v92, v93]
                      rw [wrap_i64 (by omega) (by omega)]
                      refine later_intro ⟨i' + 1, by omega, rfl, by omega, ?_, ?_, ?_, ?_, ?_⟩ <;> (try simp only [go_sem, v1, v91, v92, v93]) <;> (try rfl)
                      intro j c hj hc
                      by_cases hji : j < i'
                      · exact hall' j c hji hc
                      · obtain rfl : j = i' := by omega
                        rw [hn] at hc; cases hc; exact ⟨c1, c2⟩
                  · have c1 : ¬ 1 ≤ n := by simp at c1; omega
                    simp -dsimp only [↓reduceIte, go_sem, v1, v91, v92, v93]
                    exact bad _ (Ext.app _ _) (fun h => c1 ((hR.1 h).2.1 n hmem).1)
                · have hb2 : i' = x.nodes.length := by simp at hb2; omega
                  have ha : AllIn 1 32 x.nodes := fun n hn => by
                    obtain ⟨j, hj⟩ := List.mem_iff_getElem?.1 hn
                    exact hall' j n (by have := (List.getElem?_eq_some_iff.1 hj).1; omega) hj
                  simp -dsimp only [↓reduceIte, go_sem, v1, v91, v92, v93]
                  refine guardV_split (fun c1 => ?_) (fun c1 => ?_) <;> (try rw [c1])
                  · have c1 : x.size = 0 := by simpa using c1
                    simp -dsimp only [↓reduceIte, go_sem, v1, v91, v92, v93]
                    refine arr_intro fun _ => ?_
                    simp only [List.length_map]
                    simp -dsimp only [↓reduceIte, go_sem, v1, v91, v92, v93]
                    refine guardV_split (fun c2 => ?_) (fun c2 => ?_) <;> (try rw [c2])
                    · have c2 : x.blocks = [] := by
                        have : x.blocks.length = 0 := by simp at c2; simp; omega
                        exact List.length_eq_zero_iff.1 this
                      simp -dsimp only [↓reduceIte, go_sem, v1, v91, v92, v93]
                      refine arr_intro fun _ => ?_
                      simp only [List.length_map]
                      simp -dsimp only [↓reduceIte, go_sem, v1, v91, v92, v93]
                      refine arr_intro fun _ => ?_
                      simp only [List.length_map]
                      simp -dsimp only [↓reduceIte, go_sem, v1, v91, v92, v93]
                      refine ⟨Ext.app _ _, rfl, ?_⟩
                      simp only [AV.strip]
                      have e : decide x.Right = ((x.names.length : Int) == (x.nodes.length : Int)) := by
                        rw [Bool.eq_iff_iff]
                        simp only [decide_eq_true_eq, beq_iff_eq]
                        rw [hR]
                        constructor
                        · intro h; rw [h.2.2.2.2]
                        · intro h; exact ⟨hnames, ha, c1, c2, by omega⟩
                      rw [e] at hK
                      exact hK
                    · have c2 : x.blocks ≠ [] := by rintro h; rw [h] at c2; simp at c2
                      simp -dsimp only [↓reduceIte, go_sem, v1, v91, v92, v93]
                      exact bad _ (Ext.app _ _) (fun h => c2 (hR.1 h).2.2.2.1)
                  · have c1 : x.size ≠ 0 := by simpa using c1
                    simp -dsimp only [↓reduceIte, go_sem, v1, v91, v92, v93]
                    exact bad _ (Ext.app _ _) (fun h => c1 (hR.1 h).2.2.1)
        · have h4 : x.kind ≠ 1 := by simpa using h4
          simp -dsimp only [↓reduceIte, go_sem]
          exact bad _ (Ext.app _ _) (fun h => by rcases h.2.2 with h | h; exact h3 h.1; exact h4 h.1)
  · have h1 : ¬ 1 ≤ x.num := by simp at h1; omega
    simp -dsimp only [↓reduceIte, go_sem]
    exact bad _ (Ext.app _ _) (fun h => h1 h.1)
end Go.Aff.L21

/- Layer 21, walked: the reference's leaves; tables. -/
namespace Go.Aff.L21
open Go.Proofs Go.Aff Go.Aff.L01 Classical
set_option linter.unusedVariables false
set_option linter.unusedSimpArgs false
attribute [local go_sem] push_app app_app length_app cellAt_app cellAt_app0 set_app set_app0 objs_app objs_app0 List.cons_append List.nil_append List.length_cons List.length_nil List.getElem?_cons_zero List.getElem?_cons_succ List.set_cons_zero List.set_cons_succ
attribute [-go_sem] cellAt_new
attribute [local go_sem] Try.underlying3 fits4 Try.underlying4 fits5 Try.underlying5 Try.underlying9 fits22 Try.underlying22 fits23 Try.underlying23 fits29 Try.underlying29 fits43 Try.underlying43 fits44 Try.underlying44 fits46 p46_0 p46_1 p46_2 p46_3 p46_4 p46_5 Try.underlying46 fits64 p64_0 p64_1 Try.underlying64
attribute [local go_sem] fits3 fits9

attribute [local go_sem ↓] blockQ_exit2
theorem Right_c {y : TLeaf} {σ : AST} {K : AV → AST → Prop} (hK : K (.bool (decide y.x.Right)) σ) : TCalls Try.prog 26 [leafV y] σ K := by
  refine TCalls.drop ?_
  obtain ⟨x, q1, q2, q3⟩ := y
  unfold leafV
  dsimp only at hK ⊢
  refine tcalls_walk Try.f26 _ [.tmp 2] Try.func26 rfl rfl rfl mixed (Nat.le_of_ble_eq_true rfl) rfl fun hlen => ?_
  have bad : ∀ s, Ext σ s → ¬ x.Right → Ext σ s ∧ (AV.bool false).noRef = true ∧ K (AV.bool false).strip σ := fun s hx h => by
    rw [decide_eq_false h] at hK; exact ⟨hx, rfl, hK⟩
  have hsz : x.Right → 0 ≤ x.size ∧ x.size ≤ 512 := fun h => by
    rcases h.2.2 with h | h
    · exact ⟨h.2.2.1, h.2.2.2.1⟩
    · have := h.2.2.2.1; omega
  simp -dsimp only [↓reduceIte, go_sem]
  refine guardV_split (fun h1 => ?_) (fun h1 => ?_) <;> (try rw [h1])
  · have h1 : 1 ≤ x.num := by simp at h1; omega
    simp -dsimp only [↓reduceIte, go_sem]
    refine guardV_split (fun h2 => ?_) (fun h2 => ?_) <;> (try rw [h2])
    · have h2 : x.num ≤ 32 := by simp at h2; omega
      simp -dsimp only [↓reduceIte, go_sem]
      refine guardV_split (fun s1 => ?_) (fun s1 => ?_) <;> (try rw [s1])
      · have s1 : 0 ≤ x.size := by simp at s1; omega
        simp -dsimp only [↓reduceIte, go_sem]
        refine boolW_split (fun s2 => ?_) (fun s2 => ?_)
        · have s2 : ¬ x.size ≤ 512 := by simp at s2; omega
          simp -dsimp only [↓reduceIte, go_sem]
          exact bad _ (Ext.app _ _) (fun h => s2 (hsz h).2)
        · have s2 : x.size ≤ 512 := by simp at s2; omega
          obtain ⟨sz, hszn⟩ : ∃ sz : Nat, x.size = sz := ⟨x.size.toNat, by omega⟩
          simp -dsimp only [↓reduceIte, go_sem]
          refine boolW_split (fun h3 => ?_) (fun h3 => ?_)
          · have h3 : x.kind = 2 := by simpa using h3
            have hR : x.Right ↔ x.File := ⟨fun h => by rcases h.2.2 with h | h; exact h.2; have := h.1; omega, fun h => ⟨h1, h2, .inl ⟨h3, h⟩⟩⟩
            simp -dsimp only [↓reduceIte, go_sem]
            refine arr_intro fun _ => ?_
            simp only [List.length_map]
            rw [hszn]
            simp -dsimp only [↓reduceIte, go_sem]
            rw [wrap_i64 (n := (sz : Int) + 31) (by omega) (by omega), show (sz : Int) + 31 = ((sz + 31 : Nat) : Int) by omega, show ((sz + 31 : Nat) : Int).tdiv 32 = (((sz + 31) / 32 : Nat) : Int) from tdiv_lit (sz + 31) 31]
            rw [wrap_i64 (n := (((sz + 31) / 32 : Nat) : Int)) (by omega) (by omega)]
            refine guardV_split (fun c1 => ?_) (fun c1 => ?_) <;> (try rw [c1])
            · have c1 : x.blocks.length = (sz + 31) / 32 := by simp at c1; omega
              simp -dsimp only [↓reduceIte, go_sem]
              refine all_c ?_
              by_cases c2 : AllIn 0 1099511627776 x.blocks
              · rw [decide_eq_true c2]
                simp -dsimp only [↓reduceIte, go_sem]
                refine arr_intro fun _ => ?_
                simp only [List.length_map]
                simp -dsimp only [↓reduceIte, go_sem]
                refine guardV_split (fun c3 => ?_) (fun c3 => ?_) <;> (try rw [c3])
                · have c3 : x.names = [] := by
                    have : x.names.length = 0 := by simp at c3; simp; omega
                    exact List.length_eq_zero_iff.1 this
                  simp -dsimp only [↓reduceIte, go_sem]
                  refine arr_intro fun _ => ?_
                  simp only [List.length_map]
                  simp -dsimp only [↓reduceIte, go_sem]
                  refine ⟨Ext.app _ _, rfl, ?_⟩
                  simp only [AV.strip]
                  have e : decide x.Right = ((x.nodes.length : Int) == 0) := by
                    rw [Bool.eq_iff_iff]
                    simp only [decide_eq_true_eq, beq_iff_eq]
                    rw [hR]
                    constructor
                    · intro h; rw [h.2.2.2.2.2]; rfl
                    · intro h; exact ⟨c2, s1, s2, by omega, c3, List.length_eq_zero_iff.1 (by omega)⟩
                  rw [e] at hK
                  exact hK
                · have c3 : x.names ≠ [] := by rintro h; rw [h] at c3; simp at c3
                  simp -dsimp only [↓reduceIte, go_sem]
                  exact bad _ (Ext.app _ _) (fun h => c3 (hR.1 h).2.2.2.2.1)
              · rw [decide_eq_false c2]
                simp -dsimp only [↓reduceIte, go_sem]
                exact bad _ (Ext.app _ _) (fun h => c2 (hR.1 h).1)
            · have c1 : x.blocks.length ≠ (sz + 31) / 32 := by simp at c1; omega
              simp -dsimp only [↓reduceIte, go_sem]
              exact bad _ (Ext.app _ _) (fun h => c1 (by have := (hR.1 h).2.2.2.1; omega))
          · have h3 : x.kind ≠ 2 := by simpa using h3
            have hR : x.Right ↔ x.kind = 1 ∧ x.Dir := ⟨fun h => by rcases h.2.2 with h | h; exact absurd h.1 h3; exact h, fun h => ⟨h1, h2, .inr h⟩⟩
            simp -dsimp only [↓reduceIte, go_sem]
            have badn : ∀ s (i : Nat) t, Ext σ s → x.names[i]? = some t → ¬ (nameB t = true ∧ ∀ t', 0 < i → x.names[i - 1]? = some t' → leqS t t' = false) → Ext σ s ∧ (AV.bool false).noRef = true ∧ K (AV.bool false).strip σ := fun s i t hx ht h => bad s hx (fun hr => h ((hR.1 hr).2.1 i t ht))
            generalize hV : AV.agg [.int .i64 x.num, .int .i64 x.kind, .int .i64 x.size, .slice q1 (x.blocks.map (AV.int .i64)), .slice q2 (x.names.map AV.str), .slice q3 (x.nodes.map (AV.int .i64))] = V
            refine awp_rounds (fun (i : Nat) τ s' => s' = σ.app [.cells V] ∧ i ≤ x.names.length ∧ (∀ (j : Nat) t, j < i → x.names[j]? = some t → nameB t = true ∧ ∀ t', 0 < j → x.names[j - 1]? = some t' → leqS t t' = false) ∧ τ 1 = .ptr (some (σ.objs.length, [])) ∧ τ 3 = .int .i64 i) (fun i => x.names.length - i) 0 ?_ ?_
            · refine ⟨rfl, by omega, fun j c h => by omega, ?_, ?_⟩ <;> (try simp only [go_sem]) <;> rfl
            · rintro i τ s' ⟨rfl, hi, hall, u1, u3⟩
              subst hV
              simp -dsimp only [↓reduceIte, go_sem, u1, u3]
              refine arr_intro fun _ => ?_
              simp only [List.length_map]
              simp -dsimp only [↓reduceIte, go_sem, u1, u3]
              have hnl : x.names.length ≤ 9223372036854775807 := by
                have := ‹(x.names.map AV.str).length ≤ maxL›
                simpa [maxL] using this
              refine boolW_split (fun hb => ?_) (fun hb => ?_)
              · have hb : i < x.names.length := by simp at hb; omega
                obtain ⟨t, ht⟩ := get_lt hb
                have step : (nameB t = true ∧ ∀ t', 0 < i → x.names[i - 1]? = some t' → leqS t t' = false) → ∀ (j : Nat) t, j < i + 1 → x.names[j]? = some t → nameB t = true ∧ ∀ t', 0 < j → x.names[j - 1]? = some t' → leqS t t' = false := fun h j t2 hj ht2 => by
                  by_cases hji : j < i
                  · exact hall j t2 hji ht2
                  · obtain rfl : j = i := by omega
                    rw [ht] at ht2; cases ht2; exact h
                refine awp_drawS (id := 8) [0, 1, 2, 3, 4, 5, 6, 7, 8, 9, 10, 11, 12, 13, 14, 15, 16, 17, 18, 19, 20, 21, 22, 23, 24] (by kernel_rfl) ?_
                simp -dsimp only [↓reduceIte, go_sem, u1, u3]
                refine nth_get ht ?_
                simp -dsimp only [↓reduceIte, go_sem, u1, u3]
                refine Name_c ?_
                simp -dsimp only [↓reduceIte, go_sem, u1, u3]
                refine guardV_split (fun c1 => ?_) (fun c1 => ?_) <;> (try rw [c1])
                · have c1 : nameB t = true := by simpa using c1
                  simp -dsimp only [↓reduceIte, go_sem, u1, u3]
                  refine guardV_split (fun c2 => ?_) (fun c2 => ?_) <;> (try rw [c2])
                  · have c2 : 0 < i := by simp at c2; omega
                    obtain ⟨t', ht'⟩ := get_lt (l := x.names) (i := i - 1) (by omega)
                    simp -dsimp only [↓reduceIte, go_sem, u1, u3]
                    refine nth_get ht ?_
                    simp -dsimp only [↓reduceIte, go_sem, u1, u3]
                    rw [wrap_i64 (n := (i : Int) - 1) (by omega) (by omega), show (i : Int) - 1 = ((i - 1 : Nat) : Int) by omega]
                    refine nth_get ht' ?_
                    simp -dsimp only [↓reduceIte, go_sem, u1, u3]
                    refine boolW_split (fun c3 => ?_) (fun c3 => ?_)
                    · have c3 : leqS t t' = true := c3
                      simp -dsimp only [↓reduceIte, go_sem, u1, u3]
                      exact badn _ i t (Ext.app _ _) ht (fun h => by have := h.2 t' c2 ht'; rw [c3] at this; cases this)
                    · have c3 : leqS t t' = false := c3
                      simp -dsimp only [↓reduceIte, go_sem, u1, u3]
                      rw [wrap_i64 (by omega) (by omega)]
                      refine later_intro ⟨i + 1, by omega, rfl, by omega, step ⟨c1, fun t2 _ h2 => by rw [ht'] at h2; cases h2; exact c3⟩, ?_, ?_⟩ <;> (try simp only [go_sem, u1, u3]) <;> rfl
                  · have c2 : i = 0 := by simp at c2; omega
                    simp -dsimp only [↓reduceIte, go_sem, u1, u3]
                    rw [wrap_i64 (by omega) (by omega)]
                    refine later_intro ⟨i + 1, by omega, rfl, by omega, step ⟨c1, fun t2 h _ => by omega⟩, ?_, ?_⟩ <;> (try simp only [go_sem, u1, u3]) <;> rfl
                · have c1 : nameB t = false := by simpa using c1
                  simp -dsimp only [↓reduceIte, go_sem, u1, u3]
                  exact badn _ i t (Ext.app _ _) ht (fun h => by have := h.1; rw [c1] at this; cases this)
              · have hb : i = x.names.length := by simp at hb; omega
                have hnames : NamesOk x.names := fun j t hj => hall j t (by have := (List.getElem?_eq_some_iff.1 hj).1; omega) hj
                simp -dsimp only [↓reduceIte, go_sem, u1, u3]
                refine guardV_split (fun c0 => ?_) (fun c0 => ?_) <;> (try rw [c0])
                · have c0 : x.kind = 1 := by simpa using c0
                  simp -dsimp only [↓reduceIte, go_sem, u1, u3]
                  refine guardV_split (fun c1 => ?_) (fun c1 => ?_) <;> (try rw [c1])
                  · have c1 : x.size = 0 := by simpa using c1
                    simp -dsimp only [↓reduceIte, go_sem, u1, u3]
                    refine arr_intro fun _ => ?_
                    simp only [List.length_map]
                    simp -dsimp only [↓reduceIte, go_sem, u1, u3]
                    refine guardV_split (fun c2 => ?_) (fun c2 => ?_) <;> (try rw [c2])
                    · have c2 : x.blocks = [] := by
                        have : x.blocks.length = 0 := by simp at c2; simp; omega
                        exact List.length_eq_zero_iff.1 this
                      simp -dsimp only [↓reduceIte, go_sem, u1, u3]
                      refine arr_intro fun _ => ?_
                      simp only [List.length_map]
                      simp -dsimp only [↓reduceIte, go_sem, u1, u3]
                      refine arr_intro fun _ => ?_
                      simp only [List.length_map]
                      simp -dsimp only [↓reduceIte, go_sem, u1, u3]
                      refine guardV_split (fun c3 => ?_) (fun c3 => ?_) <;> (try rw [c3])
                      · have c3 : x.names.length = x.nodes.length := by simp at c3; omega
                        simp -dsimp only [↓reduceIte, go_sem, u1, u3]
                        refine all_c ?_
                        simp -dsimp only [↓reduceIte, go_sem, u1, u3]
                        refine ⟨Ext.app _ _, rfl, ?_⟩
                        simp only [AV.strip]
                        have e : decide x.Right = decide (AllIn 1 32 x.nodes) := decide_eq_decide.2 ⟨fun h => (hR.1 h).2.2.1, fun h => hR.2 ⟨c0, hnames, h, c1, c2, c3⟩⟩
                        rw [e] at hK
                        exact hK
                      · have c3 : x.names.length ≠ x.nodes.length := by simp at c3; omega
                        simp -dsimp only [↓reduceIte, go_sem, u1, u3]
                        exact bad _ (Ext.app _ _) (fun h => c3 (hR.1 h).2.2.2.2.2)
                    · have c2 : x.blocks ≠ [] := by rintro h; rw [h] at c2; simp at c2
                      simp -dsimp only [↓reduceIte, go_sem, u1, u3]
                      exact bad _ (Ext.app _ _) (fun h => c2 (hR.1 h).2.2.2.2.1)
                  · have c1 : x.size ≠ 0 := by simpa using c1
                    simp -dsimp only [↓reduceIte, go_sem, u1, u3]
                    exact bad _ (Ext.app _ _) (fun h => c1 (hR.1 h).2.2.2.1)
                · have c0 : x.kind ≠ 1 := by simpa using c0
                  simp -dsimp only [↓reduceIte, go_sem, u1, u3]
                  exact bad _ (Ext.app _ _) (fun h => c0 (hR.1 h).1)
      · have s1 : ¬ 0 ≤ x.size := by simp at s1; omega
        simp -dsimp only [↓reduceIte, go_sem]
        exact bad _ (Ext.app _ _) (fun h => s1 (hsz h).1)
    · have h2 : ¬ x.num ≤ 32 := by simp at h2; omega
      simp -dsimp only [↓reduceIte, go_sem]
      exact bad _ (Ext.app _ _) (fun h => h2 h.2.1)
  · have h1 : ¬ 1 ≤ x.num := by simp at h1; omega
    simp -dsimp only [↓reduceIte, go_sem]
    exact bad _ (Ext.app _ _) (fun h => h1 h.1)
end Go.Aff.L21

