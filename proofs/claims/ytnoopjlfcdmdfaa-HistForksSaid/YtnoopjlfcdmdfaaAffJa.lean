/- Marking a row behind its end. -/
import Derived.Test.YtnoopjlfcdmdfaaAffJ
namespace Go.Aff
set_option linter.unusedVariables false
set_option linter.unusedSimpArgs false
variable {g : G} {w : World} {σ : AST}

theorem heap_mark {b n : Nat} {c : Array Value} {e : TypeId} {fr : Nat × Nat} (hc : w.heap[b]? = some (.cells c e fr)) :
    (w.freeze ⟨b, n, none⟩ 1).heap[b]? = some (.cells c e (if fr.1 == fr.2 then (n, n + 1) else (min fr.1 n, max fr.2 (n + 1)))) := by
  unfold World.freeze
  rw [if_neg (by decide)]
  simp only [Array.getElem?_modify, if_true, hc, Option.map_some]
theorem heap_mark_ne {b n k : Nat} (h : k ≠ b) : (w.freeze ⟨b, n, none⟩ 1).heap[k]? = w.heap[k]? := by
  unfold World.freeze
  rw [if_neg (by decide)]
  simp only [Array.getElem?_modify]
  rw [if_neg (fun e => h e.symm)]
theorem inv_mark {b L : Nat} {c : Array Value} {e : TypeId} {fr : Nat × Nat} (hI : Inv g σ w) (hb : g.base ≤ b) (hlim : g.lim b = some L) (hc : w.heap[b]? = some (.cells c e fr)) :
    Ev g w g (w.freeze ⟨b, c.size, none⟩ 1) ∧ Inv g σ (w.freeze ⟨b, c.size, none⟩ 1) := by
  have hsz : (w.freeze ⟨b, c.size, none⟩ 1).heap.size = w.heap.size := by
    unfold World.freeze; rw [if_neg (by decide)]; simp
  have hE : Ev g w g (w.freeze ⟨b, c.size, none⟩ 1) := by
    refine ⟨by unfold World.freeze; rfl, by unfold World.freeze; rfl, by unfold World.freeze; rfl, by omega, rfl, fun k hk => heap_mark_ne (by omega), fun _ _ h => h, fun k M hM => ⟨⟨M, hM, Nat.le_refl _⟩, fun c' e' fr' hc' => ?_⟩, fun t e h => ⟨e, h, rfl, Nat.le_refl _, fun _ => rfl⟩⟩
    by_cases hk : k = b
    · subst hk; rw [hc] at hc'; cases hc'
      exact ⟨_, _, _, heap_mark hc, fun _ _ => rfl⟩
    · exact ⟨c', e', fr', by rw [heap_mark_ne hk]; exact hc', fun _ _ => rfl⟩
  refine ⟨hE, by rw [hsz]; exact hI.base, hI.nobj, ?_, hI.inj, ?_, hI.ntok, ?_, hI.tinj⟩
  · intro i o ho hl
    obtain ⟨b', sh, h1, h2, h3, h4⟩ := hI.obj i o ho hl
    have hne : b' ≠ b := fun h => by rw [h, hlim] at h3; cases h3
    refine ⟨b', sh, h1, h2, h3, ?_⟩
    cases o with
    | gone => trivial
    | pin l o vs xs => exact ⟨h4.1, by rw [heap_mark_ne hne]; exact h4.2.1, fun i v x h1 h2 => (h4.2.2 i v x h1 h2).imp id fun ⟨a, b⟩ => ⟨relC_mono hE a, b⟩⟩
    | cells v =>
      obtain ⟨c', e', hc', hr, hs⟩ := h4
      exact ⟨c', e', by rw [heap_mark_ne hne]; exact hc', relC_mono hE hr, hs⟩
    | map es =>
      obtain ⟨me, cl, hm, hl', hes, hinj⟩ := h4
      exact ⟨me, cl, by rw [heap_mark_ne hne]; exact hm, hl', fun i k v m hk hmm => by
        obtain ⟨a1, a2, a3⟩ := hes i k v m hk hmm
        exact ⟨⟨relC_mono hE a1.1, a1.2⟩, ⟨relC_mono hE a2.1, a2.2⟩, a3⟩, hinj⟩
  · intro k M hM
    obtain ⟨h1, c', e', fr', hc', h2⟩ := hI.rows k M hM
    by_cases hk : k = b
    · subst hk; rw [hc] at hc'; cases hc'
      exact ⟨h1, _, _, _, heap_mark hc, h2⟩
    · exact ⟨h1, c', e', fr', by rw [heap_mark_ne hk]; exact hc', h2⟩
  · intro t e' ht
    obtain ⟨h1, h2, h3, h4, h5⟩ := hI.tok t e' ht
    refine ⟨h1, h2, h3, h4, fun b' o ha hlt => ?_⟩
    obtain ⟨h6, c', el, fr', hc', h7, h8⟩ := h5 b' o ha hlt
    refine ⟨h6, ?_⟩
    by_cases hk : b' = b
    · subst hk; rw [hc] at hc'; cases hc'
      refine ⟨_, _, _, heap_mark hc, h7, ?_⟩
      split
      · right; simp
      · rename_i hne
        simp at hne
        right; dsimp only; omega
    · exact ⟨c', el, fr', by rw [heap_mark_ne hk]; exact hc', h7, h8⟩
end Go.Aff
