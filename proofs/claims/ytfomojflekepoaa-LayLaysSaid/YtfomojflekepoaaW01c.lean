/- Layer 1, walked: digits that are read. -/
import Derived.Test.YtfomojflekepoaaW01b
import Derived.Test.YtfomojflekepoaaL01b
namespace Go.Aff.L01
open Go.Proofs Go.Aff
set_option linter.unusedVariables false
set_option linter.unusedSimpArgs false
attribute [local go_sem] Try.underlying3 Try.underlying4 Try.underlying5 Try.underlying9 Try.underlying51 Try.underlying53 Try.underlying27

theorem run_c {s : List UInt8} {p : Nat} (hp : p ≤ s.length) {most : Nat} (hm9 : 9 ≤ most) (hm : most < 18446744073709551616) {σ : AST} {K : AV → AST → Prop}
    (hK : K (.tuple [.int .i64 (dend s p : Nat), .int .u64 (val (digs s p) % 18446744073709551616 : Nat), .bool (decide (val (digs s p) ≤ most))]) σ) : TCalls Try.prog 34 [.str s, .int .i64 p, .int .u64 most] σ K := by
  refine tcalls_walk Try.f34 _ [.tmp 6, .tmp 7, .tmp 8] Try.func34 rfl rfl rfl mixed (Nat.le_of_ble_eq_true rfl) rfl fun hlen => ?_
  have hs : s.length ≤ 9223372036854775807 := hlen (.str s) (by simp)
  have hde := dend_le hp
  have hdd : dend s p = p + (digs s p).length := rfl
  generalize hD : digs s p = D at *
  generalize hE : dend s p = E at *
  simp -dsimp only [↓reduceIte, go_sem]
  refine awp_loop_of (fun (k : Nat) τ s' => s' = σ ∧ τ 0 = .str s ∧ τ 2 = .int .u64 most ∧ τ 1 = .int .i64 (p + k : Nat) ∧ k ≤ D.length ∧ τ 9 = .int .u64 (val (D.take k) % 18446744073709551616 : Nat) ∧ τ 10 = .bool (decide (val (D.take k) ≤ most))) (fun k => D.length - k) 0 ?_ ?_
  · simp [go_sem, val]
  · rintro k τ s' ⟨rfl, h0, h2, h1, hk, h9, h10⟩
    have hat := digs_at (s := s) (p := p) (k := k) (by rw [hD]; exact hk)
    rw [hD] at hat
    have fin : k = D.length → K (.tuple [.int .i64 (p + k : Nat), .int .u64 (val (D.take k) % 18446744073709551616 : Nat), .bool (decide (val (D.take k) ≤ most))]) s' := by
      intro e; subst e; rw [List.take_length]; rw [hdd] at hK; exact hK
    simp -dsimp only [↓reduceIte, go_sem, h0, h1, h2, h9, h10]
    refine arr_intro fun _ => ?_
    simp -dsimp only [↓reduceIte, go_sem, h0, h1, h2, h9, h10]
    have hfin0 : s.length ≤ p + k → k = D.length := fun h => by
      have : ¬ k < D.length := fun hlt => by
        obtain ⟨b, hb, _⟩ := hat.1 hlt
        have := (List.getElem?_eq_some_iff.1 hb).1; omega
      omega
    have hfin1 : ∀ b, s[p + k]? = some b → ¬ (48 ≤ b.toNat ∧ b.toNat ≤ 57) → k = D.length := fun b hb hn => by
      have : ¬ k < D.length := fun hlt => by
        obtain ⟨b', hb', hd⟩ := hat.1 hlt
        rw [hb] at hb'; cases hb'
        simp [isD] at hd; exact hn hd
      omega
    refine guardV_split (fun hb => ?_) (fun hb => ?_) <;> (try rw [hb])
    · obtain ⟨b, hbi⟩ := get_lt (l := s) (i := p + k) (by simp at hb; omega)
      simp -dsimp only [↓reduceIte, go_sem, h0, h1, h2, h9, h10]
      refine nth_get hbi ?_
      simp -dsimp only [↓reduceIte, go_sem, h0, h1, h2, h9, h10]
      refine guardV_split (fun hb1 => ?_) (fun hb1 => ?_) <;> (try rw [hb1])
      · simp -dsimp only [↓reduceIte, go_sem, h0, h1, h2, h9, h10]
        refine nth_get hbi ?_
        simp -dsimp only [↓reduceIte, go_sem, h0, h1, h2, h9, h10]
        refine boolW_split (fun hb2 => ?_) (fun hb2 => ?_)
        · simp at hb1 hb2
          have hlt : k < D.length := hat.2 ⟨b, hbi, by simp [isD]; omega⟩
          have hDk : D[k]? = some b := by rw [← hD, digs_get (by rw [hD]; exact hlt)]; exact hbi
          have hval := val_take_succ hDk
          simp -dsimp only [↓reduceIte, go_sem, h0, h1, h2, h9, h10]
          refine nth_get hbi ?_
          simp -dsimp only [↓reduceIte, go_sem, h0, h1, h2, h9, h10]
          rw [show IntKind.u64.wrap (IntKind.u8.wrap ((b.toNat : Int) - 48)) = ((b.toNat - 48 : Nat) : Int) by rw [wrap_u8 (by omega) (by omega), wrap_u64 (by omega) (by omega)]; omega]
          rw [show IntKind.u64.wrap ((most : Int) - ((b.toNat - 48 : Nat) : Int)) = ((most - (b.toNat - 48) : Nat) : Int) by rw [wrap_u64 (by omega) (by omega)]; omega]
          rw [show Int.tdiv ((most - (b.toNat - 48) : Nat) : Int) 10 = (((most - (b.toNat - 48)) / 10 : Nat) : Int) from tdiv_nat _ 10]
          rw [wrap_u64 (n := (((most - (b.toNat - 48)) / 10 : Nat) : Int)) (by omega) (by omega)]
          have hnew : IntKind.u64.wrap (IntKind.u64.wrap (((val (D.take k) % 18446744073709551616 : Nat) : Int) * 10) + ((b.toNat - 48 : Nat) : Int)) = ((val (D.take (k + 1)) % 18446744073709551616 : Nat) : Int) := by
            rw [IntKind.wrap_u64, IntKind.wrap_u64, hval]; omega
          have hpk : IntKind.i64.wrap (((p + k : Nat) : Int) + 1) = ((p + (k + 1) : Nat) : Int) := by rw [wrap_i64 (by omega) (by omega)]; omega
          refine boolW_split (fun hc => ?_) (fun hc => ?_)
          · simp -dsimp only [↓reduceIte, go_sem, h0, h1, h2, h9, h10]
            refine ⟨_, ?_, k + 1, ?_, rfl⟩
            · omega
            · simp at hc
              have hbig : ¬ val (D.take (k + 1)) ≤ most := by
                rw [hval]
                by_cases hv : val (D.take k) ≤ most
                · rw [show ((val (D.take k) : Nat) : Int) % 18446744073709551616 = ((val (D.take k) : Nat) : Int) by omega] at hc; clear hnew hpk hval; omega
                · clear hnew hpk hval hc; omega
              rw [hnew, hpk]
              simp only [go_sem, h0, h2]
              refine ⟨by omega, ?_⟩
              simp [hbig]
          · simp -dsimp only [↓reduceIte, go_sem, h0, h1, h2, h9, h10]
            refine ⟨_, ?_, k + 1, ?_, rfl⟩
            · omega
            · simp at hc
              have hbig : val (D.take (k + 1)) ≤ most ↔ val (D.take k) ≤ most := by
                rw [hval]
                by_cases hv : val (D.take k) ≤ most
                · rw [show ((val (D.take k) : Nat) : Int) % 18446744073709551616 = ((val (D.take k) : Nat) : Int) by omega] at hc; clear hnew hpk hval; omega
                · clear hnew hpk hval hc; omega
              rw [hnew, hpk]
              simp only [go_sem, h0, h2, h10]
              refine ⟨by omega, ?_⟩
              simp [hbig]
        · simp -dsimp only [↓reduceIte, go_sem, h0, h1, h2, h9, h10]
          exact fin (hfin1 b hbi (by simp at hb2; omega))
      · simp -dsimp only [↓reduceIte, go_sem, h0, h1, h2, h9, h10]
        exact fin (hfin1 b hbi (by simp at hb1; omega))
    · simp -dsimp only [↓reduceIte, go_sem, h0, h1, h2, h9, h10]
      exact fin (hfin0 (by simp at hb; omega))
end Go.Aff.L01
