/- Layer 9, walked: the operations in order. -/
import Derived.Test.YtnoopjlfcdmdfaaL09a
import Derived.Test.YtnoopjlfcdmdfaaProg
namespace Go.Aff.L09
open Go.Proofs Go.Aff
set_option linter.unusedVariables false
set_option linter.unusedSimpArgs false
theorem mixed : Try.prog.follows .mixedOrders = true := rfl
theorem agg3 : aggT Try.prog 3 = some false := by kernel_rfl
theorem cells3 : Try.prog.cellsOf 3 = 1 := by kernel_rfl
theorem agg5 : aggT Try.prog 5 = some false := by kernel_rfl
theorem cells5 : Try.prog.cellsOf 5 = 1 := by kernel_rfl
theorem agg9 : aggT Try.prog 9 = some false := by kernel_rfl
theorem cells9 : Try.prog.cellsOf 9 = 1 := by kernel_rfl
theorem fits3 {v : AV} : fits Try.prog 3 v = (v.isAgg = false ∧ v.size = 1) := fits_leaf agg3 cells3
theorem fits9 {v : AV} : fits Try.prog 9 v = (v.isAgg = false ∧ v.size = 1) := fits_leaf agg9 cells9
attribute [local go_sem] Try.underlying3 Try.underlying4 Try.underlying5 Try.underlying9 Try.underlying42 fits3 fits9

theorem zero42 : zeroA Try.prog 12 42 = .agg ((List.replicate 256 (0 : Int)).map (AV.int .i64)) := by kernel_rfl
theorem zeroOf42 : ZeroOf Try.prog 42 (zeroA Try.prog 12 42) := by
  rw [zero42]
  exact ⟨_, _, rfl, rfl, by kernel_rfl, rfl, by kernel_rfl⟩

theorem next_c {b : UInt8} {j : Nat} {xs : List Int} {x : Int} {σ : AST} {K : AV → AST → Prop} (hl : xs.length = 256) (ho : σ.objs[j]? = some (.cells (.agg (xs.map (AV.int .i64))))) (hx : xs[b.toNat]? = some x) (h0 : 0 ≤ x) (h1 : x < 9223372036854775807)
    (hK : K (.int .i64 (x + 1)) (σ.set j (.cells (.agg ((xs.set b.toNat (x + 1)).map (AV.int .i64)))))) : TCalls Try.prog 28 [.int .u8 b.toNat, .ptr (some (j, []))] σ K := by
  refine tcalls_walk Try.f28 _ [.tmp 3] Try.func28 rfl rfl rfl mixed (Nat.le_of_ble_eq_true rfl) rfl fun hlen => ?_
  simp -dsimp only [↓reduceIte, go_sem]
  have hj : j < σ.objs.length := (List.getElem?_eq_some_iff.1 ho).1
  have hb : b.toNat < 256 := b.toNat_lt
  have ho2 : (σ.set j (.cells (.agg ((xs.set b.toNat (x + 1)).map (AV.int .i64))))).objs[j]? = some (.cells (.agg ((xs.set b.toNat (x + 1)).map (AV.int .i64)))) := by simp [AST.set, hj]
  have hx2 : (xs.set b.toNat (x + 1))[b.toNat]? = some (x + 1) := by simp [hl, hb]
  refine indexAddr_ptr Try.underlying42 Try.underlying3 cells3 hl ho hx ?_
  simp -dsimp only [↓reduceIte, go_sem]
  rw [cellAt_int ho hx]
  simp -dsimp only [↓reduceIte, go_sem]
  rw [wrap_i64 (by omega) (by omega)]
  refine indexAddr_ptr Try.underlying42 Try.underlying3 cells3 hl ho hx ?_
  simp -dsimp only [↓reduceIte, go_sem]
  refine storeC_int ho hx (by simp only [go_sem]) ?_
  simp -dsimp only [↓reduceIte, go_sem]
  refine indexAddr_ptr Try.underlying42 Try.underlying3 cells3 (by simp [hl]) ho2 hx2 ?_
  simp -dsimp only [↓reduceIte, go_sem]
  rw [cellAt_int ho2 hx2]
  simp -dsimp only [↓reduceIte, go_sem]
  exact hK

/-- The iterator: over whatever its rounds do to the caller's state. -/
theorem ops1_c {h : List UInt8} {l ih N : Nat} {σ : AST} {K : AV → AST → Prop} (I J : Nat → AST → Prop) (hlh : h.length ≤ 9223372036854775807)
    (hI : ∀ i s, I i s → s.objs.length = N ∧ s.objs[ih]? = some (.cells (.str h)))
    (hJ : ∀ i s, J i s → s.objs.length = N ∧ s.objs[ih]? = some (.cells (.str h)))
    (hY : ∀ i b s o, h[i]? = some b → I i s → YCalls Try.prog l [.int .i64 b.toNat, .int .i64 (cnt b.toNat (h.take (i + 1)))] (s.app [o]) fun v σ' => ∃ s', σ' = s'.app [o] ∧ ((v = .bool true ∧ I (i + 1) s') ∨ (v = .bool false ∧ J i s')))
    (h0 : I 0 σ) (hend : ∀ s o, I h.length s → K (.tuple []) (s.app [o])) (hstop : ∀ i s o, i < h.length → J i s → K (.tuple []) (s.app [o])) :
    TCalls Try.prog 27 [.fn (.yield l) [] [], .ptr (some (ih, []))] σ K := by
  refine tcalls_walk Try.f27 _ [] Try.func27 rfl rfl rfl mixed (Nat.le_of_ble_eq_true rfl) rfl fun hlen => ?_
  have hlt : ∀ {i s}, I i s → ih < s.objs.length := fun {i s} h => (List.getElem?_eq_some_iff.1 (hI i s h).2).1
  have hcell : ∀ {i s o}, I i s → cellAt (s.app [o]) ih [] = some (.str h) := fun {i s o} hh => by
    simp only [cellAt, AST.app, List.getElem?_append_left (hlt hh), (hI i s hh).2, Option.bind_some, objCell, AV.at]
  simp -dsimp only [↓reduceIte, go_sem]
  refine ⟨zeroOf42, later_intro ?_⟩
  simp -dsimp only [↓reduceIte, go_sem]
  refine ⟨by intro x hx; simp only [List.mem_singleton] at hx; subst hx; simp only [go_sem], later_intro ?_⟩
  rw [zero42, push_app, (hI 0 σ h0).1]
  simp -dsimp only [↓reduceIte, go_sem]
  rw [hcell h0]
  simp -dsimp only [↓reduceIte, go_sem]
  refine arr_intro fun _ => ?_
  simp -dsimp only [↓reduceIte, go_sem]
  refine awp_rounds (fun (i : Nat) τ s' => ∃ (s : AST) (cs : List Int), s' = s.app [.cells (.agg (cs.map (AV.int .i64)))] ∧ I i s ∧ i ≤ h.length ∧ cs.length = 256 ∧ (∀ b : UInt8, cs[b.toNat]? = some ((cnt b.toNat (h.take i) : Nat) : Int)) ∧
    τ 0 = .fn (.yield l) [] [] ∧ τ 1 = .ptr (some (ih, [])) ∧ τ 4 = .fn (.func 28) [] [.ptr (some (N, []))] ∧ τ 8 = .int .i64 h.length ∧ τ 9 = .int .i64 i) (fun i => h.length - i) 0 ?_ ?_
  · refine ⟨σ, _, rfl, h0, by omega, List.length_replicate, fun b => ?_, ?_, ?_, ?_, ?_, ?_⟩ <;> try (simp only [go_sem] <;> rfl)
    have := b.toNat_lt
    rw [List.getElem?_replicate, if_pos this]; simp [cnt]
  · rintro i τ s' ⟨s, cs, rfl, hs, hi, hcl, hcs, t0, t1, t4, t8, t9⟩
    have hN := (hI i s hs).1
    simp -dsimp only [↓reduceIte, go_sem, t0, t1, t4, t8, t9]
    refine boolW_split (fun h1 => ?_) (fun h1 => ?_)
    · have h1 : i < h.length := by simp at h1; omega
      obtain ⟨b, hb⟩ := get_lt h1
      have hc := cnt_take (c := (b.toNat : Int)) hb
      rw [if_pos isC_self] at hc
      have hcle := cnt_take_le (c := (b.toNat : Int)) (h := h) (i := i)
      simp -dsimp only [↓reduceIte, go_sem, t0, t1, t4, t8, t9]
      refine awp_drawE [(0, false), (1, false), (2, false), (3, false), (4, false), (5, false), (6, false), (7, false), (8, false), (9, true), (10, true), (11, false)] (by kernel_rfl) ?_
      simp -dsimp only [↓reduceIte, go_sem, t0, t1, t4, t8, t9, hcell hs]
      refine nth_get hb ?_
      simp -dsimp only [↓reduceIte, go_sem, t0, t1, t4, t8, t9, hcell hs]
      refine nth_get hb ?_
      simp -dsimp only [↓reduceIte, go_sem, t0, t1, t4, t8, t9, hcell hs]
      refine next_c hcl (by rw [← hN, objs_app0]; rfl) (hcs b) (by omega) (by omega) ?_
      simp -dsimp only [↓reduceIte, go_sem, t0, t1, t4, t8, t9, hcell hs]
      have hst : (s.app [AObj.cells (.agg (cs.map (AV.int .i64)))]).set N (.cells (.agg ((cs.set b.toNat (((cnt b.toNat (h.take i) : Nat) : Int) + 1)).map (AV.int .i64)))) = s.app [.cells (.agg ((cs.set b.toNat (((cnt b.toNat (h.take i) : Nat) : Int) + 1)).map (AV.int .i64)))] := by
        rw [← hN, set_app0]; rfl
      rw [hst]
      have hk : ∀ (a b : AObj), keeps [ih, ih] (s.app [a]) (s.app [b]) := fun a b k hk => by
        have : k = ih := by simpa using hk
        subst this
        simp only [AST.app, List.getElem?_append_left (hlt hs)]
      refine ⟨hk _ _, ?_⟩
      simp -dsimp only [↓reduceIte, go_sem, t0, t1, t4, t8, t9, hcell hs]
      rw [show (((cnt b.toNat (h.take i) : Nat) : Int) + 1) = ((cnt b.toNat (h.take (i + 1)) : Nat) : Int) by rw [hc]; rfl]
      have hbt := b.toNat_lt
      rw [wrap_i64 (n := (b.toNat : Int)) (by omega) (by omega)]
      refine (hY i b s _ hb hs).mono ?_
      rintro v _ ⟨s', rfl, hv⟩
      have hcs' : ∀ a : UInt8, (cs.set b.toNat ((cnt b.toNat (h.take (i + 1)) : Nat) : Int))[a.toNat]? = some ((cnt a.toNat (h.take (i + 1)) : Nat) : Int) := fun a => by
        by_cases hab : a = b
        · subst hab; rw [List.getElem?_set_self (by omega)]
        · have hne : b.toNat ≠ a.toNat := fun e => hab (UInt8.toNat_inj.1 e).symm
          rw [List.getElem?_set_ne hne, hcs a, cnt_take (c := (a.toNat : Int)) hb, isC_other hab]; simp
      have hk2 : s'.objs[ih]? = some (.cells (.str h)) → ∀ (a b : AObj), keeps [ih, ih] (s.app [a]) (s'.app [b]) := fun h2 a b k hk => by
        have : k = ih := by simpa using hk
        subst this
        have := (List.getElem?_eq_some_iff.1 h2).1
        simp only [AST.app, List.getElem?_append_left (hlt hs), List.getElem?_append_left this, (hI i s hs).2, h2]
      rcases hv with ⟨rfl, hs'⟩ | ⟨rfl, hs'⟩
      · refine ⟨hk2 (hI _ _ hs').2 _ _, ?_⟩
        simp -dsimp only [↓reduceIte, go_sem, t0, t1, t4, t8, t9]
        rw [wrap_i64 (by omega) (by omega)]
        refine later_intro ⟨i + 1, by omega, s', _, rfl, hs', by omega, by simpa using hcl, hcs', ?_, ?_, ?_, ?_, ?_⟩ <;> (try simp only [go_sem, t0, t1, t4, t8, t9]) <;> rfl
      · refine ⟨hk2 (hJ _ _ hs').2 _ _, ?_⟩
        simp -dsimp only [↓reduceIte, go_sem, t0, t1, t4, t8, t9]
        exact hstop i s' _ h1 hs'
    · have h1 : i = h.length := by simp at h1; omega
      subst h1
      simp -dsimp only [↓reduceIte, go_sem, t0, t1, t4, t8, t9]
      exact hend s _ hs
end Go.Aff.L09
