import Derived.Test.YtpafajjginndcaaG18

/- Layer 21, walked: blocks joined. -/
namespace Go.Aff.L21
open Go.Proofs Go.Aff Go.Aff.L01 Classical
set_option linter.unusedVariables false
set_option linter.unusedSimpArgs false
attribute [local go_sem] push_app app_app length_app cellAt_app cellAt_app0 set_app set_app0 objs_app objs_app0 List.cons_append List.nil_append List.length_cons List.length_nil List.getElem?_cons_zero List.getElem?_cons_succ List.set_cons_zero List.set_cons_succ
attribute [-go_sem] cellAt_new
attribute [local go_sem] Try.underlying3 fits4 Try.underlying4 fits5 Try.underlying5 Try.underlying9 fits22 Try.underlying22 fits23 Try.underlying23 fits29 Try.underlying29 fits43 Try.underlying43 fits44 Try.underlying44 fits46 p46_0 p46_1 p46_2 p46_3 p46_4 p46_5 Try.underlying46 fits64 p64_0 p64_1 Try.underlying64
attribute [local go_sem] fits3 fits9

theorem flat_part {l : List (List UInt8)} {i j : Nat} (h : i ≤ j) : (l.take i).flatten.length ≤ (l.take j).flatten.length := by
  have e : l.take i = (l.take j).take i := by rw [List.take_take, Nat.min_eq_left h]
  rw [e]; exact take_flat_le

theorem join_c {size : Int} {l : List (List UInt8)} {tk0 : Tk} (hs0 : -9223372036854775808 ≤ size) (hs1 : size ≤ 9223372036854775807) {σ : AST} {K : AV → AST → Prop} (hK : K (.tuple [.str (joinV size l).1, .int .i64 (joinV size l).2]) σ) :
    TCalls Try.prog 13 [.int .i64 size, .slice tk0 (l.map AV.str)] σ K := by
  refine TCalls.drop ?_
  refine tcalls_walk Try.f13 _ [.tmp 4, .tmp 5] Try.func13 rfl rfl rfl mixed (Nat.le_of_ble_eq_true rfl) rfl fun hlen => ?_
  have bad : ∀ s, Ext σ s → ¬ joinR size l → Ext σ s ∧ (AV.tuple [.str [], .int .i64 6]).noRef = true ∧ K (AV.tuple [.str [], .int .i64 6]).strip σ := fun s hx h => by
    rw [joinV, if_neg h] at hK; exact ⟨hx, rfl, hK⟩
  simp -dsimp only [↓reduceIte, go_sem]
  refine guardV_split (fun h1 => ?_) (fun h1 => ?_) <;> (try rw [h1])
  · have h1 : 0 ≤ size := by simp at h1; omega
    simp -dsimp only [↓reduceIte, go_sem]
    refine guardV_split (fun h2 => ?_) (fun h2 => ?_) <;> (try rw [h2])
    · have h2 : size ≤ 512 := by simp at h2; omega
      obtain ⟨n, rfl⟩ : ∃ n : Nat, size = n := ⟨size.toNat, by omega⟩
      simp -dsimp only [↓reduceIte, go_sem]
      refine arr_intro fun _ => ?_
      simp only [List.length_map]
      simp -dsimp only [↓reduceIte, go_sem]
      refine many_c (by omega) ?_
      simp -dsimp only [↓reduceIte, go_sem]
      refine boolW_split (fun h3 => ?_) (fun h3 => ?_)
      · have h3 : l.length ≠ (n + 31) / 32 := by simp at h3; omega
        simp -dsimp only [↓reduceIte, go_sem]
        exact bad _ (Ext.refl _) (fun h => h3 (by have := h.2.2.1; omega))
      · have h3 : l.length = (n + 31) / 32 := by simp at h3; omega
        simp -dsimp only [↓reduceIte, go_sem]
        refine arr_intro fun _ => ?_
        simp only [List.length_map]
        simp -dsimp only [↓reduceIte, go_sem]
        refine awp_rounds (fun (i : Nat) τ s => ∃ tk, i ≤ l.length ∧ (∀ j t, j < i → l[j]? = some t → t.length = min 32 (n - 32 * j)) ∧ Ext σ s ∧ tkNew σ tk ∧ canApp s tk (l.take i).flatten.length 1 ∧ τ 0 = .int .i64 n ∧ τ 6 = .slice tk (u8s (l.take i).flatten) ∧ τ 22 = .slice tk0 (l.map AV.str) ∧ τ 23 = .int .i64 l.length ∧ τ 24 = .int .i64 i) (fun i => l.length - i) 0 ?_ ?_
        · refine ⟨.full, by omega, fun j t h => by omega, Ext.refl _, .inl rfl, trivial, ?_, ?_, ?_, ?_, ?_⟩ <;> (try simp only [go_sem]) <;> rfl
        · rintro i τ s ⟨tk, hi, hall, hx, htk, hcan, t0, t6, t22, t23, t24⟩
          simp -dsimp only [↓reduceIte, go_sem, t0, t6, t22, t23, t24]
          refine boolW_split (fun hb => ?_) (fun hb => ?_)
          · have hb : i < l.length := by simp at hb; omega
            obtain ⟨t, ht⟩ := get_lt hb
            have hp := pre32 hb fun j s hj h1 h2 => by have := hall j s hj h1; omega
            simp -dsimp only [↓reduceIte, go_sem, t0, t6, t22, t23, t24]
            refine nth_get ht ?_
            simp -dsimp only [↓reduceIte, go_sem, t0, t6, t22, t23, t24]
            refine arr_intro fun _ => ?_
            simp -dsimp only [↓reduceIte, go_sem, t0, t6, t22, t23, t24]
            refine arr_intro fun _ => ?_
            rw [u8s_length, hp]
            simp -dsimp only [↓reduceIte, go_sem, t0, t6, t22, t23, t24]
            rw [wrap_i64 (n := (n : Int) - ((32 * i : Nat) : Int)) (by omega) (by omega), show min (32 : Int) ((n : Int) - ((32 * i : Nat) : Int)) = ((min 32 (n - 32 * i) : Nat) : Int) by omega]
            refine boolW_split (fun h4 => ?_) (fun h4 => ?_)
            · have h4 : t.length ≠ min 32 (n - 32 * i) := by simp at h4; omega
              simp -dsimp only [↓reduceIte, go_sem, t0, t6, t22, t23, t24]
              exact bad _ hx (fun h => h4 (join_at h3 (by have := h.2.2.2; simpa using this) ht))
            · have h4 : t.length = min 32 (n - 32 * i) := by simp at h4; omega
              simp -dsimp only [↓reduceIte, go_sem, t0, t6, t22, t23, t24]
              refine append_text E51 Try.underlying9 hcan (by omega) (by simp only [maxL]; omega) ?_
              refine later_intro ?_
              simp -dsimp only [↓reduceIte, go_sem, t0, t6, t22, t23, t24]
              rw [wrap_i64 (by omega) (by omega)]
              refine later_intro ⟨i + 1, by omega, growT s tk, by omega, ?_, hx.grow htk, htk.grow hx, ?_, ?_, ?_, ?_, ?_, ?_⟩ <;> (try simp only [go_sem, t0, t6, t22, t23, t24]) <;> (try rfl)
              · intro j t' hj ht'
                by_cases hji : j < i
                · exact hall j t' hji ht'
                · obtain rfl : j = i := by omega
                  rw [ht] at ht'; cases ht'; exact h4
              · rw [take_flat ht, List.length_append]; exact canApp_grow hcan
              · rw [take_flat ht]
          · have hb : i = l.length := by simp at hb; omega
            rw [hb, List.take_length] at t6
            simp -dsimp only [↓reduceIte, go_sem, t0, t6, t22, t23, t24]
            have hok : joinR n l := ⟨by omega, by omega, by omega, by rw [Int.toNat_natCast]; exact join_all h3 fun j t hj => hall j t (by have := (List.getElem?_eq_some_iff.1 hj).1; omega) hj⟩
            rw [joinV, if_pos hok] at hK
            exact ⟨hx, rfl, hK⟩
    · have h2 : ¬ size ≤ 512 := by simp at h2; omega
      simp -dsimp only [↓reduceIte, go_sem]
      exact bad _ (Ext.refl _) (fun h => h2 h.2.1)
  · have h1 : ¬ 0 ≤ size := by simp at h1; omega
    simp -dsimp only [↓reduceIte, go_sem]
    exact bad _ (Ext.refl _) (fun h => h1 h.1)

theorem Join_c {size : Int} {l : List (List UInt8)} {tk0 : Tk} (hs0 : -9223372036854775808 ≤ size) (hs1 : size ≤ 9223372036854775807) (hl : ∀ s ∈ l, s.length ≤ 1000) {σ : AST} {K : AV → AST → Prop} (hK : K (.tuple [.str (joinV size l).1, .int .i64 (joinV size l).2]) σ) :
    TCalls Try.prog 14 [.int .i64 size, .slice tk0 (l.map AV.str)] σ K := by
  refine tcalls_walk Try.f14 _ [.tmp 4, .tmp 5] Try.func14 rfl rfl rfl mixed (Nat.le_of_ble_eq_true rfl) rfl fun hlen => ?_
  have bad : ¬ joinR size l → K (AV.tuple [.str [], .int .i64 6]) σ := fun h => by
    rw [joinV, if_neg h] at hK; exact hK
  simp -dsimp only [↓reduceIte, go_sem]
  refine guardV_split (fun h1 => ?_) (fun h1 => ?_) <;> (try rw [h1])
  · have h1 : 0 ≤ size := by simp at h1; omega
    simp -dsimp only [↓reduceIte, go_sem]
    refine guardV_split (fun h2 => ?_) (fun h2 => ?_) <;> (try rw [h2])
    · have h2 : size ≤ 512 := by simp at h2; omega
      obtain ⟨n, rfl⟩ : ∃ n : Nat, size = n := ⟨size.toNat, by omega⟩
      simp -dsimp only [↓reduceIte, go_sem]
      refine arr_intro fun _ => ?_
      simp only [List.length_map]
      simp -dsimp only [↓reduceIte, go_sem]
      rw [wrap_i64 (n := (n : Int) + 31) (by omega) (by omega), show (n : Int) + 31 = ((n + 31 : Nat) : Int) by omega, show ((n + 31 : Nat) : Int).tdiv 32 = (((n + 31) / 32 : Nat) : Int) from tdiv_lit (n + 31) 31]
      rw [wrap_i64 (n := (((n + 31) / 32 : Nat) : Int)) (by omega) (by omega)]
      refine boolW_split (fun h3 => ?_) (fun h3 => ?_)
      · have h3 : l.length ≠ (n + 31) / 32 := by simp at h3; omega
        simp -dsimp only [↓reduceIte, go_sem]
        exact bad (fun h => h3 (by have := h.2.2.1; omega))
      · have h3 : l.length = (n + 31) / 32 := by simp at h3; omega
        simp -dsimp only [↓reduceIte, go_sem]
        refine awp_rounds (fun (i : Nat) τ s => s = σ ∧ i ≤ l.length ∧ (∀ j t, j < i → l[j]? = some t → j + 1 < l.length → t.length = 32) ∧ (l.take i).flatten.length ≤ 512 ∧ τ 0 = .int .i64 n ∧ τ 1 = .slice tk0 (l.map AV.str) ∧ τ 6 = .str (l.take i).flatten ∧ τ 7 = .int .i64 i) (fun i => l.length - i) 0 ?_ ?_
        · refine ⟨rfl, by omega, fun j t h => by omega, by simp, ?_, ?_, ?_, ?_⟩ <;> (try simp only [go_sem]) <;> rfl
        · rintro i τ s ⟨rfl, hi, hall, hle, t0, t1, t6, t7⟩
          simp -dsimp only [↓reduceIte, go_sem, t0, t1, t6, t7]
          refine arr_intro fun _ => ?_
          simp only [List.length_map]
          simp -dsimp only [↓reduceIte, go_sem, t0, t1, t6, t7]
          refine boolW_split (fun hb => ?_) (fun hb => ?_)
          · have hb : i < l.length := by simp at hb; omega
            obtain ⟨t, ht⟩ := get_lt hb
            have ht1000 := hl t (List.mem_iff_getElem?.2 ⟨i, ht⟩)
            have tail : (i + 1 < l.length → t.length = 32) → (512 < (l.take (i + 1)).flatten.length → ¬ joinR n l) := fun _ h hj => by
              have h1 := hj.2.2.2.2
              have h2 := take_flat_le (l := l) (i := i + 1)
              rw [Int.toNat_natCast] at h1; omega
            simp -dsimp only [↓reduceIte, go_sem, t0, t1, t6, t7]
            rw [wrap_i64 (n := (i : Int) + 1) (by omega) (by omega)]
            refine arr_intro fun _ => ?_
            simp only [List.length_map]
            simp -dsimp only [↓reduceIte, go_sem, t0, t1, t6, t7]
            refine guardV_split (fun h4 => ?_) (fun h4 => ?_) <;> (try rw [h4])
            · have h4 : i + 1 < l.length := by simp at h4; omega
              simp -dsimp only [↓reduceIte, go_sem, t0, t1, t6, t7]
              refine nth_get ht ?_
              simp -dsimp only [↓reduceIte, go_sem, t0, t1, t6, t7]
              refine arr_intro fun _ => ?_
              simp -dsimp only [↓reduceIte, go_sem, t0, t1, t6, t7]
              refine boolW_split (fun h5 => ?_) (fun h5 => ?_)
              · have h5 : t.length ≠ 32 := by simp at h5; omega
                simp -dsimp only [↓reduceIte, go_sem, t0, t1, t6, t7]
                exact bad (fun h => h5 (h.2.2.2.1 i t ht h4))
              · have h5 : t.length = 32 := by simp at h5; omega
                simp -dsimp only [↓reduceIte, go_sem, t0, t1, t6, t7]
                refine nth_get ht ?_
                simp -dsimp only [↓reduceIte, go_sem, t0, t1, t6, t7]
                refine side_later (by simp only [maxL]; omega) ?_
                simp -dsimp only [↓reduceIte, go_sem, t0, t1, t6, t7]
                refine arr_intro fun _ => ?_
                rw [← take_flat ht]
                simp -dsimp only [↓reduceIte, go_sem, t0, t1, t6, t7]
                refine boolW_split (fun h7 => ?_) (fun h7 => ?_)
                · have h7 : 512 < (l.take (i + 1)).flatten.length := by simp at h7; simp; omega
                  simp -dsimp only [↓reduceIte, go_sem, t0, t1, t6, t7]
                  exact bad (tail (fun _ => h5) h7)
                · have h7 : (l.take (i + 1)).flatten.length ≤ 512 := by simp at h7; simp; omega
                  simp -dsimp only [↓reduceIte, go_sem, t0, t1, t6, t7]
                  rw [wrap_i64 (by omega) (by omega)]
                  refine later_intro ⟨i + 1, by omega, rfl, by omega, ?_, h7, ?_, ?_, ?_, ?_⟩ <;> (try simp only [go_sem, t0, t1, t6, t7]) <;> (try rfl)
                  intro j t' hj ht' hj2
                  by_cases hji : j < i
                  · exact hall j t' hji ht' hj2
                  · obtain rfl : j = i := by omega
                    rw [ht] at ht'; cases ht'; exact (fun _ => h5) hj2
            · have h4 : ¬ i + 1 < l.length := by simp at h4; omega
              simp -dsimp only [↓reduceIte, go_sem, t0, t1, t6, t7]
              refine nth_get ht ?_
              simp -dsimp only [↓reduceIte, go_sem, t0, t1, t6, t7]
              refine side_later (by simp only [maxL]; omega) ?_
              simp -dsimp only [↓reduceIte, go_sem, t0, t1, t6, t7]
              refine arr_intro fun _ => ?_
              rw [← take_flat ht]
              simp -dsimp only [↓reduceIte, go_sem, t0, t1, t6, t7]
              refine boolW_split (fun h7 => ?_) (fun h7 => ?_)
              · have h7 : 512 < (l.take (i + 1)).flatten.length := by simp at h7; simp; omega
                simp -dsimp only [↓reduceIte, go_sem, t0, t1, t6, t7]
                exact bad (tail (fun h => absurd h h4) h7)
              · have h7 : (l.take (i + 1)).flatten.length ≤ 512 := by simp at h7; simp; omega
                simp -dsimp only [↓reduceIte, go_sem, t0, t1, t6, t7]
                rw [wrap_i64 (by omega) (by omega)]
                refine later_intro ⟨i + 1, by omega, rfl, by omega, ?_, h7, ?_, ?_, ?_, ?_⟩ <;> (try simp only [go_sem, t0, t1, t6, t7]) <;> (try rfl)
                intro j t' hj ht' hj2
                by_cases hji : j < i
                · exact hall j t' hji ht' hj2
                · obtain rfl : j = i := by omega
                  rw [ht] at ht'; cases ht'; exact (fun h => absurd h h4) hj2
          · have hb : i = l.length := by simp at hb; omega
            rw [hb, List.take_length] at t6
            simp -dsimp only [↓reduceIte, go_sem, t0, t1, t6, t7]
            refine arr_intro fun _ => ?_
            simp -dsimp only [↓reduceIte, go_sem, t0, t1, t6, t7]
            refine boolW_split (fun h6 => ?_) (fun h6 => ?_)
            · have h6 : l.flatten.length ≠ n := by simp at h6; simp; omega
              simp -dsimp only [↓reduceIte, go_sem, t0, t1, t6, t7]
              exact bad (fun h => h6 (by have := h.2.2.2.2; simpa using this))
            · have h6 : l.flatten.length = n := by simp at h6; simp; omega
              simp -dsimp only [↓reduceIte, go_sem, t0, t1, t6, t7]
              have hok : joinR n l := ⟨by omega, by omega, by omega, fun j t hj hj2 => hall j t (by have := (List.getElem?_eq_some_iff.1 hj).1; omega) hj hj2, by rw [Int.toNat_natCast]; exact h6⟩
              rw [joinV, if_pos hok] at hK
              exact hK
    · have h2 : ¬ size ≤ 512 := by simp at h2; omega
      simp -dsimp only [↓reduceIte, go_sem]
      exact bad (fun h => h2 h.2.1)
  · have h1 : ¬ 0 ≤ size := by simp at h1; omega
    simp -dsimp only [↓reduceIte, go_sem]
    exact bad (fun h => h1 h.1)
end Go.Aff.L21

/- Layer 21, walked: names, leaves that may be. -/
namespace Go.Aff.L21
open Go.Proofs Go.Aff Go.Aff.L01 Classical
set_option linter.unusedVariables false
set_option linter.unusedSimpArgs false
attribute [local go_sem] push_app app_app length_app cellAt_app cellAt_app0 set_app set_app0 objs_app objs_app0 List.cons_append List.nil_append List.length_cons List.length_nil List.getElem?_cons_zero List.getElem?_cons_succ List.set_cons_zero List.set_cons_succ
attribute [-go_sem] cellAt_new
attribute [local go_sem] Try.underlying3 fits4 Try.underlying4 fits5 Try.underlying5 Try.underlying9 fits22 Try.underlying22 fits23 Try.underlying23 fits29 Try.underlying29 fits43 Try.underlying43 fits44 Try.underlying44 fits46 p46_0 p46_1 p46_2 p46_3 p46_4 p46_5 Try.underlying46 fits64 p64_0 p64_1 Try.underlying64
attribute [local go_sem] fits3 fits9

attribute [local go_sem ↓] blockQ_exit2
theorem toNat_ge {b : UInt8} {n : Nat} : decide ((n : Int) ≤ (b.toNat : Int)) = decide (n ≤ b.toNat) := by simp
theorem letter_eq (b : UInt8) : letterB b = ((decide ((97 : Int) ≤ b.toNat) && decide ((b.toNat : Int) ≤ 122)) || ((decide ((48 : Int) ≤ b.toNat) && decide ((b.toNat : Int) ≤ 57)) || (((b.toNat : Int) == 46) || (((b.toNat : Int) == 45) || ((b.toNat : Int) == 95))))) := by
  rw [Bool.eq_iff_iff]
  simp only [letterB, decide_eq_true_eq, Bool.or_eq_true, Bool.and_eq_true, beq_iff_eq]
  omega
theorem letter_c {b : UInt8} {σ : AST} {K : AV → AST → Prop} (hK : K (.bool (letterB b)) σ) : TCalls Try.prog 62 [.int .u8 b.toNat] σ K := by
  refine tcalls_walk Try.f62 _ [.tmp 2] Try.func62 rfl rfl rfl mixed (Nat.le_of_ble_eq_true rfl) rfl fun hlen => ?_
  rw [letter_eq] at hK
  generalize hp : decide ((97 : Int) ≤ b.toNat) = p1 at hK
  generalize hq : decide ((b.toNat : Int) ≤ 122) = p2 at hK
  generalize hr : decide ((48 : Int) ≤ b.toNat) = p3 at hK
  generalize hs : decide ((b.toNat : Int) ≤ 57) = p4 at hK
  generalize ht : ((b.toNat : Int) == 46) = p5 at hK
  generalize hu : ((b.toNat : Int) == 45) = p6 at hK
  generalize hv : ((b.toNat : Int) == 95) = p7 at hK
  cases p1
  · cases p3
    · cases p5
      · cases p6
        · cases p7
          · simp only [Bool.true_and, Bool.false_and, Bool.or_true, Bool.true_or, Bool.or_false, Bool.false_or, Bool.and_true, Bool.and_false, Bool.or_self, Bool.and_self] at hK
            simp -dsimp only [↓reduceIte, go_sem, hp, hq, hr, hs, ht, hu, hv]
            exact hK
          · simp only [Bool.true_and, Bool.false_and, Bool.or_true, Bool.true_or, Bool.or_false, Bool.false_or, Bool.and_true, Bool.and_false, Bool.or_self, Bool.and_self] at hK
            simp -dsimp only [↓reduceIte, go_sem, hp, hq, hr, hs, ht, hu, hv]
            exact hK
        · simp only [Bool.true_and, Bool.false_and, Bool.or_true, Bool.true_or, Bool.or_false, Bool.false_or, Bool.and_true, Bool.and_false, Bool.or_self, Bool.and_self] at hK
          simp -dsimp only [↓reduceIte, go_sem, hp, hq, hr, hs, ht, hu, hv]
          exact hK
      · simp only [Bool.true_and, Bool.false_and, Bool.or_true, Bool.true_or, Bool.or_false, Bool.false_or, Bool.and_true, Bool.and_false, Bool.or_self, Bool.and_self] at hK
        simp -dsimp only [↓reduceIte, go_sem, hp, hq, hr, hs, ht, hu, hv]
        exact hK
    · cases p4
      · cases p5
        · cases p6
          · cases p7
            · simp only [Bool.true_and, Bool.false_and, Bool.or_true, Bool.true_or, Bool.or_false, Bool.false_or, Bool.and_true, Bool.and_false, Bool.or_self, Bool.and_self] at hK
              simp -dsimp only [↓reduceIte, go_sem, hp, hq, hr, hs, ht, hu, hv]
              exact hK
            · simp only [Bool.true_and, Bool.false_and, Bool.or_true, Bool.true_or, Bool.or_false, Bool.false_or, Bool.and_true, Bool.and_false, Bool.or_self, Bool.and_self] at hK
              simp -dsimp only [↓reduceIte, go_sem, hp, hq, hr, hs, ht, hu, hv]
              exact hK
          · simp only [Bool.true_and, Bool.false_and, Bool.or_true, Bool.true_or, Bool.or_false, Bool.false_or, Bool.and_true, Bool.and_false, Bool.or_self, Bool.and_self] at hK
            simp -dsimp only [↓reduceIte, go_sem, hp, hq, hr, hs, ht, hu, hv]
            exact hK
        · simp only [Bool.true_and, Bool.false_and, Bool.or_true, Bool.true_or, Bool.or_false, Bool.false_or, Bool.and_true, Bool.and_false, Bool.or_self, Bool.and_self] at hK
          simp -dsimp only [↓reduceIte, go_sem, hp, hq, hr, hs, ht, hu, hv]
          exact hK
      · simp only [Bool.true_and, Bool.false_and, Bool.or_true, Bool.true_or, Bool.or_false, Bool.false_or, Bool.and_true, Bool.and_false, Bool.or_self, Bool.and_self] at hK
        simp -dsimp only [↓reduceIte, go_sem, hp, hq, hr, hs, ht, hu, hv]
        exact hK
  · cases p2
    · cases p3
      · cases p5
        · cases p6
          · cases p7
            · simp only [Bool.true_and, Bool.false_and, Bool.or_true, Bool.true_or, Bool.or_false, Bool.false_or, Bool.and_true, Bool.and_false, Bool.or_self, Bool.and_self] at hK
              simp -dsimp only [↓reduceIte, go_sem, hp, hq, hr, hs, ht, hu, hv]
              exact hK
            · simp only [Bool.true_and, Bool.false_and, Bool.or_true, Bool.true_or, Bool.or_false, Bool.false_or, Bool.and_true, Bool.and_false, Bool.or_self, Bool.and_self] at hK
              simp -dsimp only [↓reduceIte, go_sem, hp, hq, hr, hs, ht, hu, hv]
              exact hK
          · simp only [Bool.true_and, Bool.false_and, Bool.or_true, Bool.true_or, Bool.or_false, Bool.false_or, Bool.and_true, Bool.and_false, Bool.or_self, Bool.and_self] at hK
            simp -dsimp only [↓reduceIte, go_sem, hp, hq, hr, hs, ht, hu, hv]
            exact hK
        · simp only [Bool.true_and, Bool.false_and, Bool.or_true, Bool.true_or, Bool.or_false, Bool.false_or, Bool.and_true, Bool.and_false, Bool.or_self, Bool.and_self] at hK
          simp -dsimp only [↓reduceIte, go_sem, hp, hq, hr, hs, ht, hu, hv]
          exact hK
      · cases p4
        · cases p5
          · cases p6
            · cases p7
              · simp only [Bool.true_and, Bool.false_and, Bool.or_true, Bool.true_or, Bool.or_false, Bool.false_or, Bool.and_true, Bool.and_false, Bool.or_self, Bool.and_self] at hK
                simp -dsimp only [↓reduceIte, go_sem, hp, hq, hr, hs, ht, hu, hv]
                exact hK
              · simp only [Bool.true_and, Bool.false_and, Bool.or_true, Bool.true_or, Bool.or_false, Bool.false_or, Bool.and_true, Bool.and_false, Bool.or_self, Bool.and_self] at hK
                simp -dsimp only [↓reduceIte, go_sem, hp, hq, hr, hs, ht, hu, hv]
                exact hK
            · simp only [Bool.true_and, Bool.false_and, Bool.or_true, Bool.true_or, Bool.or_false, Bool.false_or, Bool.and_true, Bool.and_false, Bool.or_self, Bool.and_self] at hK
              simp -dsimp only [↓reduceIte, go_sem, hp, hq, hr, hs, ht, hu, hv]
              exact hK
          · simp only [Bool.true_and, Bool.false_and, Bool.or_true, Bool.true_or, Bool.or_false, Bool.false_or, Bool.and_true, Bool.and_false, Bool.or_self, Bool.and_self] at hK
            simp -dsimp only [↓reduceIte, go_sem, hp, hq, hr, hs, ht, hu, hv]
            exact hK
        · simp only [Bool.true_and, Bool.false_and, Bool.or_true, Bool.true_or, Bool.or_false, Bool.false_or, Bool.and_true, Bool.and_false, Bool.or_self, Bool.and_self] at hK
          simp -dsimp only [↓reduceIte, go_sem, hp, hq, hr, hs, ht, hu, hv]
          exact hK
    · simp only [Bool.true_and, Bool.false_and, Bool.or_true, Bool.true_or, Bool.or_false, Bool.false_or, Bool.and_true, Bool.and_false, Bool.or_self, Bool.and_self] at hK
      simp -dsimp only [↓reduceIte, go_sem, hp, hq, hr, hs, ht, hu, hv]
      exact hK

theorem name_c {s : List UInt8} {σ : AST} {K : AV → AST → Prop} (hK : K (.bool (nameB s)) σ) : TCalls Try.prog 61 [.str s] σ K := by
  refine tcalls_walk Try.f61 _ [.tmp 2] Try.func61 rfl rfl rfl mixed (Nat.le_of_ble_eq_true rfl) rfl fun hlen => ?_
  have bad : ¬ (s ≠ [] ∧ s.length ≤ 12 ∧ s ≠ [46] ∧ s ≠ [46, 46] ∧ ∀ b ∈ s, letterB b = true) → K (.bool false) σ := fun h => by
    rw [nameB, decide_eq_false h] at hK; exact hK
  simp -dsimp only [↓reduceIte, go_sem]
  refine guardV_split (fun h1 => ?_) (fun h1 => ?_) <;> (try rw [h1])
  · have h1 : s ≠ [] := by simpa using h1
    simp -dsimp only [↓reduceIte, go_sem]
    refine arr_intro fun _ => ?_
    simp -dsimp only [↓reduceIte, go_sem]
    refine guardV_split (fun h2 => ?_) (fun h2 => ?_) <;> (try rw [h2])
    · have h2 : s.length ≤ 12 := by simp at h2; omega
      simp -dsimp only [↓reduceIte, go_sem]
      refine guardV_split (fun h3 => ?_) (fun h3 => ?_) <;> (try rw [h3])
      · have h3 : s ≠ [46] := by simpa using h3
        simp -dsimp only [↓reduceIte, go_sem]
        refine boolW_split (fun h4 => ?_) (fun h4 => ?_)
        · have h4 : s = [46, 46] := by simpa using h4
          simp -dsimp only [↓reduceIte, go_sem]
          exact bad (fun h => h.2.2.2.1 h4)
        · have h4 : s ≠ [46, 46] := by simpa using h4
          simp -dsimp only [↓reduceIte, go_sem]
          refine arr_intro fun _ => ?_
          simp -dsimp only [↓reduceIte, go_sem]
          refine awp_rounds (fun (i : Nat) τ s' => s' = σ ∧ i ≤ s.length ∧ (∀ j c, j < i → s[j]? = some c → letterB c = true) ∧ τ 0 = .str s ∧ τ 3 = .bool true ∧ τ 22 = .int .i64 s.length ∧ τ 23 = .int .i64 i) (fun i => s.length - i) 0 ?_ ?_
          · refine ⟨rfl, by omega, fun j c h => by omega, ?_, ?_, ?_, ?_⟩ <;> (try simp only [go_sem]) <;> rfl
          · rintro i τ s' ⟨rfl, hi, hall, t0, t3, t22, t23⟩
            simp -dsimp only [↓reduceIte, go_sem, t0, t3, t22, t23]
            refine boolW_split (fun hb => ?_) (fun hb => ?_)
            · have hb : i < s.length := by simp at hb; omega
              obtain ⟨b, hb1⟩ := get_lt hb
              have hmem : b ∈ s := List.mem_iff_getElem?.2 ⟨i, hb1⟩
              simp -dsimp only [↓reduceIte, go_sem, t0, t3, t22, t23]
              refine nth_get hb1 ?_
              have hl := letter_eq b
              have step : letterB b = true → ∀ j c, j < i + 1 → s[j]? = some c → letterB c = true := fun h j c hj hc => by
                by_cases hji : j < i
                · exact hall j c hji hc
                · obtain rfl : j = i := by omega
                  rw [hb1] at hc; cases hc; exact h
              generalize hp : decide ((97 : Int) ≤ b.toNat) = p1 at hl
              generalize hq : decide ((b.toNat : Int) ≤ 122) = p2 at hl
              generalize hr : decide ((48 : Int) ≤ b.toNat) = p3 at hl
              generalize hs : decide ((b.toNat : Int) ≤ 57) = p4 at hl
              generalize ht : ((b.toNat : Int) == 46) = p5 at hl
              generalize hu : ((b.toNat : Int) == 45) = p6 at hl
              generalize hv : ((b.toNat : Int) == 95) = p7 at hl
              cases p1
              · cases p3
                · cases p5
                  · cases p6
                    · cases p7
                      · simp -dsimp only [↓reduceIte, go_sem, t0, t3, t22, t23, hp, hq, hr, hs, ht, hu, hv]
                        simp only [Bool.true_and, Bool.false_and, Bool.or_true, Bool.true_or, Bool.or_false, Bool.false_or, Bool.and_true, Bool.and_false, Bool.or_self, Bool.and_self] at hl
                        exact bad (fun h => by have := h.2.2.2.2 b hmem; rw [hl] at this; cases this)
                      · simp -dsimp only [↓reduceIte, go_sem, t0, t3, t22, t23, hp, hq, hr, hs, ht, hu, hv]
                        simp only [Bool.true_and, Bool.false_and, Bool.or_true, Bool.true_or, Bool.or_false, Bool.false_or, Bool.and_true, Bool.and_false, Bool.or_self, Bool.and_self] at hl
                        first
                        | (rw [wrap_i64 (by omega) (by omega)]; exact ⟨i + 1, by omega, by omega, step hl, rfl⟩)
                        | (rw [wrap_i64 (by omega) (by omega)]; refine later_intro ⟨i + 1, by omega, rfl, by omega, step hl, ?_, ?_, ?_, ?_⟩ <;> (try simp only [go_sem, t0, t3, t22, t23]) <;> rfl)
                    · simp -dsimp only [↓reduceIte, go_sem, t0, t3, t22, t23, hp, hq, hr, hs, ht, hu, hv]
                      simp only [Bool.true_and, Bool.false_and, Bool.or_true, Bool.true_or, Bool.or_false, Bool.false_or, Bool.and_true, Bool.and_false, Bool.or_self, Bool.and_self] at hl
                      first
                      | (rw [wrap_i64 (by omega) (by omega)]; exact ⟨i + 1, by omega, by omega, step hl, rfl⟩)
                      | (rw [wrap_i64 (by omega) (by omega)]; refine later_intro ⟨i + 1, by omega, rfl, by omega, step hl, ?_, ?_, ?_, ?_⟩ <;> (try simp only [go_sem, t0, t3, t22, t23]) <;> rfl)
                  · simp -dsimp only [↓reduceIte, go_sem, t0, t3, t22, t23, hp, hq, hr, hs, ht, hu, hv]
                    simp only [Bool.true_and, Bool.false_and, Bool.or_true, Bool.true_or, Bool.or_false, Bool.false_or, Bool.and_true, Bool.and_false, Bool.or_self, Bool.and_self] at hl
                    first
                    | (rw [wrap_i64 (by omega) (by omega)]; exact ⟨i + 1, by omega, by omega, step hl, rfl⟩)
                    | (rw [wrap_i64 (by omega) (by omega)]; refine later_intro ⟨i + 1, by omega, rfl, by omega, step hl, ?_, ?_, ?_, ?_⟩ <;> (try simp only [go_sem, t0, t3, t22, t23]) <;> rfl)
                · cases p4
                  · cases p5
                    · cases p6
                      · cases p7
                        · simp -dsimp only [↓reduceIte, go_sem, t0, t3, t22, t23, hp, hq, hr, hs, ht, hu, hv]
                          simp only [Bool.true_and, Bool.false_and, Bool.or_true, Bool.true_or, Bool.or_false, Bool.false_or, Bool.and_true, Bool.and_false, Bool.or_self, Bool.and_self] at hl
                          exact bad (fun h => by have := h.2.2.2.2 b hmem; rw [hl] at this; cases this)
                        · simp -dsimp only [↓reduceIte, go_sem, t0, t3, t22, t23, hp, hq, hr, hs, ht, hu, hv]
                          simp only [Bool.true_and, Bool.false_and, Bool.or_true, Bool.true_or, Bool.or_false, Bool.false_or, Bool.and_true, Bool.and_false, Bool.or_self, Bool.and_self] at hl
                          first
                          | (rw [wrap_i64 (by omega) (by omega)]; exact ⟨i + 1, by omega, by omega, step hl, rfl⟩)
                          | (rw [wrap_i64 (by omega) (by omega)]; refine later_intro ⟨i + 1, by omega, rfl, by omega, step hl, ?_, ?_, ?_, ?_⟩ <;> (try simp only [go_sem, t0, t3, t22, t23]) <;> rfl)
                      · simp -dsimp only [↓reduceIte, go_sem, t0, t3, t22, t23, hp, hq, hr, hs, ht, hu, hv]
                        simp only [Bool.true_and, Bool.false_and, Bool.or_true, Bool.true_or, Bool.or_false, Bool.false_or, Bool.and_true, Bool.and_false, Bool.or_self, Bool.and_self] at hl
                        first
                        | (rw [wrap_i64 (by omega) (by omega)]; exact ⟨i + 1, by omega, by omega, step hl, rfl⟩)
                        | (rw [wrap_i64 (by omega) (by omega)]; refine later_intro ⟨i + 1, by omega, rfl, by omega, step hl, ?_, ?_, ?_, ?_⟩ <;> (try simp only [go_sem, t0, t3, t22, t23]) <;> rfl)
                    · simp -dsimp only [↓reduceIte, go_sem, t0, t3, t22, t23, hp, hq, hr, hs, ht, hu, hv]
                      simp only [Bool.true_and, Bool.false_and, Bool.or_true, Bool.true_or, Bool.or_false, Bool.false_or, Bool.and_true, Bool.and_false, Bool.or_self, Bool.and_self] at hl
                      first
                      | (rw [wrap_i64 (by omega) (by omega)]; exact ⟨i + 1, by omega, by omega, step hl, rfl⟩)
                      | (rw [wrap_i64 (by omega) (by omega)]; refine later_intro ⟨i + 1, by omega, rfl, by omega, step hl, ?_, ?_, ?_, ?_⟩ <;> (try simp only [go_sem, t0, t3, t22, t23]) <;> rfl)
                  · simp -dsimp only [↓reduceIte, go_sem, t0, t3, t22, t23, hp, hq, hr, hs, ht, hu, hv]
                    simp only [Bool.true_and, Bool.false_and, Bool.or_true, Bool.true_or, Bool.or_false, Bool.false_or, Bool.and_true, Bool.and_false, Bool.or_self, Bool.and_self] at hl
                    first
                    | (rw [wrap_i64 (by omega) (by omega)]; exact ⟨i + 1, by omega, by omega, step hl, rfl⟩)
                    | (rw [wrap_i64 (by omega) (by omega)]; refine later_intro ⟨i + 1, by omega, rfl, by omega, step hl, ?_, ?_, ?_, ?_⟩ <;> (try simp only [go_sem, t0, t3, t22, t23]) <;> rfl)
              · cases p2
                · cases p3
                  · cases p5
                    · cases p6
                      · cases p7
                        · simp -dsimp only [↓reduceIte, go_sem, t0, t3, t22, t23, hp, hq, hr, hs, ht, hu, hv]
                          simp only [Bool.true_and, Bool.false_and, Bool.or_true, Bool.true_or, Bool.or_false, Bool.false_or, Bool.and_true, Bool.and_false, Bool.or_self, Bool.and_self] at hl
                          exact bad (fun h => by have := h.2.2.2.2 b hmem; rw [hl] at this; cases this)
                        · simp -dsimp only [↓reduceIte, go_sem, t0, t3, t22, t23, hp, hq, hr, hs, ht, hu, hv]
                          simp only [Bool.true_and, Bool.false_and, Bool.or_true, Bool.true_or, Bool.or_false, Bool.false_or, Bool.and_true, Bool.and_false, Bool.or_self, Bool.and_self] at hl
                          first
                          | (rw [wrap_i64 (by omega) (by omega)]; exact ⟨i + 1, by omega, by omega, step hl, rfl⟩)
                          | (rw [wrap_i64 (by omega) (by omega)]; refine later_intro ⟨i + 1, by omega, rfl, by omega, step hl, ?_, ?_, ?_, ?_⟩ <;> (try simp only [go_sem, t0, t3, t22, t23]) <;> rfl)
                      · simp -dsimp only [↓reduceIte, go_sem, t0, t3, t22, t23, hp, hq, hr, hs, ht, hu, hv]
                        simp only [Bool.true_and, Bool.false_and, Bool.or_true, Bool.true_or, Bool.or_false, Bool.false_or, Bool.and_true, Bool.and_false, Bool.or_self, Bool.and_self] at hl
                        first
                        | (rw [wrap_i64 (by omega) (by omega)]; exact ⟨i + 1, by omega, by omega, step hl, rfl⟩)
                        | (rw [wrap_i64 (by omega) (by omega)]; refine later_intro ⟨i + 1, by omega, rfl, by omega, step hl, ?_, ?_, ?_, ?_⟩ <;> (try simp only [go_sem, t0, t3, t22, t23]) <;> rfl)
                    · simp -dsimp only [↓reduceIte, go_sem, t0, t3, t22, t23, hp, hq, hr, hs, ht, hu, hv]
                      simp only [Bool.true_and, Bool.false_and, Bool.or_true, Bool.true_or, Bool.or_false, Bool.false_or, Bool.and_true, Bool.and_false, Bool.or_self, Bool.and_self] at hl
                      first
                      | (rw [wrap_i64 (by omega) (by omega)]; exact ⟨i + 1, by omega, by omega, step hl, rfl⟩)
                      | (rw [wrap_i64 (by omega) (by omega)]; refine later_intro ⟨i + 1, by omega, rfl, by omega, step hl, ?_, ?_, ?_, ?_⟩ <;> (try simp only [go_sem, t0, t3, t22, t23]) <;> rfl)
                  · cases p4
                    · cases p5
                      · cases p6
                        · cases p7
                          · simp -dsimp only [↓reduceIte, go_sem, t0, t3, t22, t23, hp, hq, hr, hs, ht, hu, hv]
                            simp only [Bool.true_and, Bool.false_and, Bool.or_true, Bool.true_or, Bool.or_false, Bool.false_or, Bool.and_true, Bool.and_false, Bool.or_self, Bool.and_self] at hl
                            exact bad (fun h => by have := h.2.2.2.2 b hmem; rw [hl] at this; cases this)
                          · simp -dsimp only [↓reduceIte, go_sem, t0, t3, t22, t23, hp, hq, hr, hs, ht, hu, hv]
                            simp only [Bool.true_and, Bool.false_and, Bool.or_true, Bool.true_or, Bool.or_false, Bool.false_or, Bool.and_true, Bool.and_false, Bool.or_self, Bool.and_self] at hl
                            first
                            | (rw [wrap_i64 (by omega) (by omega)]; exact ⟨i + 1, by omega, by omega, step hl, rfl⟩)
                            | (rw [wrap_i64 (by omega) (by omega)]; refine later_intro ⟨i + 1, by omega, rfl, by omega, step hl, ?_, ?_, ?_, ?_⟩ <;> (try simp only [go_sem, t0, t3, t22, t23]) <;> rfl)
                        · simp -dsimp only [↓reduceIte, go_sem, t0, t3, t22, t23, hp, hq, hr, hs, ht, hu, hv]
                          simp only [Bool.true_and, Bool.false_and, Bool.or_true, Bool.true_or, Bool.or_false, Bool.false_or, Bool.and_true, Bool.and_false, Bool.or_self, Bool.and_self] at hl
                          first
                          | (rw [wrap_i64 (by omega) (by omega)]; exact ⟨i + 1, by omega, by omega, step hl, rfl⟩)
                          | (rw [wrap_i64 (by omega) (by omega)]; refine later_intro ⟨i + 1, by omega, rfl, by omega, step hl, ?_, ?_, ?_, ?_⟩ <;> (try simp only [go_sem, t0, t3, t22, t23]) <;> rfl)
                      · simp -dsimp only [↓reduceIte, go_sem, t0, t3, t22, t23, hp, hq, hr, hs, ht, hu, hv]
                        simp only [Bool.true_and, Bool.false_and, Bool.or_true, Bool.true_or, Bool.or_false, Bool.false_or, Bool.and_true, Bool.and_false, Bool.or_self, Bool.and_self] at hl
                        first
                        | (rw [wrap_i64 (by omega) (by omega)]; exact ⟨i + 1, by omega, by omega, step hl, rfl⟩)
                        | (rw [wrap_i64 (by omega) (by omega)]; refine later_intro ⟨i + 1, by omega, rfl, by omega, step hl, ?_, ?_, ?_, ?_⟩ <;> (try simp only [go_sem, t0, t3, t22, t23]) <;> rfl)
                    · simp -dsimp only [↓reduceIte, go_sem, t0, t3, t22, t23, hp, hq, hr, hs, ht, hu, hv]
                      simp only [Bool.true_and, Bool.false_and, Bool.or_true, Bool.true_or, Bool.or_false, Bool.false_or, Bool.and_true, Bool.and_false, Bool.or_self, Bool.and_self] at hl
                      first
                      | (rw [wrap_i64 (by omega) (by omega)]; exact ⟨i + 1, by omega, by omega, step hl, rfl⟩)
                      | (rw [wrap_i64 (by omega) (by omega)]; refine later_intro ⟨i + 1, by omega, rfl, by omega, step hl, ?_, ?_, ?_, ?_⟩ <;> (try simp only [go_sem, t0, t3, t22, t23]) <;> rfl)
                · simp -dsimp only [↓reduceIte, go_sem, t0, t3, t22, t23, hp, hq, hr, hs, ht, hu, hv]
                  simp only [Bool.true_and, Bool.false_and, Bool.or_true, Bool.true_or, Bool.or_false, Bool.false_or, Bool.and_true, Bool.and_false, Bool.or_self, Bool.and_self] at hl
                  first
                  | (rw [wrap_i64 (by omega) (by omega)]; exact ⟨i + 1, by omega, by omega, step hl, rfl⟩)
                  | (rw [wrap_i64 (by omega) (by omega)]; refine later_intro ⟨i + 1, by omega, rfl, by omega, step hl, ?_, ?_, ?_, ?_⟩ <;> (try simp only [go_sem, t0, t3, t22, t23]) <;> rfl)
            · have hb : i = s.length := by simp at hb; omega
              have ok : s ≠ [] ∧ s.length ≤ 12 ∧ s ≠ [46] ∧ s ≠ [46, 46] ∧ ∀ b ∈ s, letterB b = true := ⟨h1, h2, h3, h4, fun b hb2 => by
                obtain ⟨j, hj⟩ := List.mem_iff_getElem?.1 hb2
                exact hall j b (by have := (List.getElem?_eq_some_iff.1 hj).1; omega) hj⟩
              rw [nameB, decide_eq_true ok] at hK
              simp -dsimp only [↓reduceIte, go_sem, t0, t3, t22, t23]
              exact hK
      · have h3 : s = [46] := by simpa using h3
        simp -dsimp only [↓reduceIte, go_sem]
        exact bad (fun h => h.2.2.1 h3)
    · have h2 : ¬ s.length ≤ 12 := by simp at h2; omega
      simp -dsimp only [↓reduceIte, go_sem]
      exact bad (fun h => h2 h.2.1)
  · have h1 : s = [] := by simpa using h1
    simp -dsimp only [↓reduceIte, go_sem]
    exact bad (fun h => h.1 h1)
end Go.Aff.L21

