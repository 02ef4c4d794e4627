import Derived.Test.YtikbkaedemmpmaaGreatG6
import Derived.KernelRfl
import Derived.Laws.BitsLemmas
import Derived.Laws.Bits64
import Derived.RangeFuncLeaves

set_option linter.unusedSimpArgs false
set_option linter.unusedVariables false

namespace Go.Aff

variable {P : Program} {σ σ' : AST} {K : AV → AST → Prop} {KV : AV → Prop} {g g' : G} {w w' : World}

mutual
def AV.strip : AV → AV
  | .slice .full [] => .slice .full []
  | .slice _ xs => .slice .none (AV.strips xs)
  | .eptr v => .eptr v.strip
  | .agg ps => .agg (AV.strips ps)
  | .tuple vs => .tuple (AV.strips vs)
  | .iface t v => .iface t v.strip
  | .fn f a b => .fn f (AV.strips a) (AV.strips b)
  | v => v
def AV.strips : List AV → List AV
  | [] => []
  | v :: r => v.strip :: AV.strips r
end

mutual
def AV.noRef : AV → Bool
  | .ptr (some _) => false
  | .mp (some _) => false
  | .arr _ _ _ => false
  | .slice _ xs => AV.noRefs xs
  | .eptr v => v.noRef
  | .agg ps => AV.noRefs ps
  | .tuple vs => AV.noRefs vs
  | .iface _ v => v.noRef
  | .fn _ a b => AV.noRefs a && AV.noRefs b
  | _ => true
def AV.noRefs : List AV → Bool
  | [] => true
  | v :: r => v.noRef && AV.noRefs r
end

theorem strips_length : ∀ (l : List AV), (AV.strips l).length = l.length
  | [] => rfl
  | v :: r => by simp [AV.strips, strips_length r]

theorem strip_isAgg (v : AV) : v.strip.isAgg = v.isAgg := by
  unfold AV.strip; split <;> simp_all [AV.isAgg]

def G.cut (g : G) (n m : Nat) : G := { g with objs := g.objs.take n, toks := g.toks.take m }

mutual
theorem relC_strip {n m : Nat} : ∀ {v : AV} {cs : List Value}, v.noRef = true → relC g w v cs → relC (g.cut n m) w v.strip cs
  | .undef, cs, hn, h | .bool _, cs, hn, h | .int _ _, cs, hn, h | .str _, cs, hn, h | .nilFn, cs, hn, h | .lit _, cs, hn, h | .nilIface, cs, hn, h | .ptr none, cs, hn, h | .mp none, cs, hn, h | .dig _, cs, hn, h => by
    simp only [AV.strip, relC] at h ⊢; exact h
  | .ptr (some _), cs, hn, h | .mp (some _), cs, hn, h | .arr _ _ _, cs, hn, h => by simp [AV.noRef] at hn
  | .slice tk xs, cs, hn, h => by
    simp only [AV.noRef] at hn
    simp only [relC] at h
    obtain ⟨ad, a, c, es, css, rfl, had, hes, h1, h2, h3, h4, h5⟩ := h
    have key : relC (g.cut n m) w (.slice .none (AV.strips xs)) [.slice ad xs.length c] := by
      simp only [relC]
      exact ⟨ad, a, c, es, css, by rw [strips_length], had, relEs_strip hn hes, by rw [strips_length]; exact h1, h2, h3, h4, trivial⟩
    unfold AV.strip
    split
    · rename_i h; cases h
      simp only [relC]
      exact ⟨ad, a, c, es, css, rfl, had, by simpa [relEs] using hes, h1, h2, h3, h4, h5⟩
    · rename_i h; cases h; exact key
    all_goals simp_all
  | .eptr v, cs, hn, h => by
    simp only [AV.noRef] at hn
    simp only [AV.strip, relC] at h ⊢
    obtain ⟨b, o, cv, h1, h2, h3, h4⟩ := h
    exact ⟨b, o, cv, h1, relC_strip hn h2, h3, h4⟩
  | .agg ps, cs, hn, h => by
    simp only [AV.noRef] at hn
    simp only [AV.strip, relC] at h ⊢
    exact relPs_strip hn h
  | .iface t v, cs, hn, h => by
    simp only [AV.noRef] at hn
    simp only [AV.strip, relC] at h ⊢
    obtain ⟨x, h1, h2, h3⟩ := h
    exact ⟨x, h1, relC_strip hn h2, by rw [strip_isAgg]; exact h3⟩
  | .fn f a b, cs, hn, h => by
    simp only [AV.noRef, Bool.and_eq_true] at hn
    simp only [AV.strip, relC] at h ⊢
    obtain ⟨x, y, h1, h2, h3⟩ := h
    exact ⟨x, y, h1, relVs_strip hn.1 h2, relVs_strip hn.2 h3⟩
  | .tuple _, cs, hn, h => by simp [relC] at h
theorem relPs_strip {n m : Nat} : ∀ {ps : List AV} {cs : List Value}, AV.noRefs ps = true → relPs g w ps cs → relPs (g.cut n m) w (AV.strips ps) cs
  | [], cs, hn, h => by simp only [AV.strips, relPs] at h ⊢; exact h
  | p :: ps, cs, hn, h => by
    simp only [AV.noRefs, Bool.and_eq_true] at hn
    simp only [AV.strips, relPs] at h ⊢
    obtain ⟨c1, c2, h1, h2, h3⟩ := h
    exact ⟨c1, c2, h1, relC_strip hn.1 h2, relPs_strip hn.2 h3⟩
theorem relEs_strip {n m es : Nat} : ∀ {ps : List AV} {cs : List Value}, AV.noRefs ps = true → relEs g w es ps cs → relEs (g.cut n m) w es (AV.strips ps) cs
  | [], cs, hn, h => by simp only [AV.strips, relEs] at h ⊢; exact h
  | p :: ps, cs, hn, h => by
    simp only [AV.noRefs, Bool.and_eq_true] at hn
    simp only [AV.strips, relEs] at h ⊢
    obtain ⟨c1, c2, h1, h0, h2, h3⟩ := h
    exact ⟨c1, c2, h1, h0, relC_strip hn.1 h2, relEs_strip hn.2 h3⟩
theorem relVs_strip {n m : Nat} : ∀ {vs : List AV} {l : List Value}, AV.noRefs vs = true → relVs g w vs l → relVs (g.cut n m) w (AV.strips vs) l
  | [], l, hn, h => by simp only [AV.strips, relVs] at h ⊢; exact h
  | v :: vs, l, hn, h => by
    simp only [AV.noRefs, Bool.and_eq_true] at hn
    simp only [AV.strips, relVs] at h ⊢
    obtain ⟨x, r, h1, h2, h3, h4⟩ := h
    exact ⟨x, r, h1, relC_strip hn.1 h2, by rw [strip_isAgg]; exact h3, relVs_strip hn.2 h4⟩
end

theorem relV_strip {n m : Nat} {v : AV} {x : Value} (hn : v.noRef = true) (h : relV g w v x) : relV (g.cut n m) w v.strip x := by
  rcases h with rfl | ⟨vs, a, rfl, rfl, h⟩ | ⟨h1, h2⟩
  · exact .inl rfl
  · simp only [AV.noRef] at hn
    refine .inr (.inl ⟨AV.strips vs, a, by simp [AV.strip], rfl, relVs_strip hn h⟩)
  · exact .inr (.inr ⟨relC_strip hn h1, by rw [strip_isAgg]; exact h2⟩)

mutual
def AV.small (n m : Nat) : AV → Prop
  | .ptr (some q) => q.1 < n
  | .mp (some i) => i < n
  | .arr i _ _ => i < n
  | .slice tk xs => (∀ t, tk = .own t → t < m) ∧ AV.smalls n m xs
  | .eptr v => v.small n m
  | .agg ps => AV.smalls n m ps
  | .iface _ v => v.small n m
  | .fn _ a b => AV.smalls n m a ∧ AV.smalls n m b
  | _ => True
def AV.smalls (n m : Nat) : List AV → Prop
  | [] => True
  | v :: r => v.small n m ∧ AV.smalls n m r
end

mutual
theorem relC_small : ∀ {v : AV} {cs : List Value}, relC g w v cs → v.small g.objs.length g.toks.length
  | .undef, cs, h | .bool _, cs, h | .int _ _, cs, h | .str _, cs, h | .nilFn, cs, h | .lit _, cs, h | .nilIface, cs, h | .ptr none, cs, h | .mp none, cs, h | .dig _, cs, h | .tuple _, cs, h => by simp only [AV.small]
  | .ptr (some (i, p)), cs, h => by
    simp only [relC] at h; obtain ⟨b, sh, o, h1, _⟩ := h
    simp only [AV.small]; exact (List.getElem?_eq_some_iff.1 h1).1
  | .mp (some i), cs, h => by
    simp only [relC] at h; obtain ⟨b, sh, h1, _⟩ := h
    simp only [AV.small]; exact (List.getElem?_eq_some_iff.1 h1).1
  | .arr i p n, cs, h => by
    simp only [relC] at h; obtain ⟨b, sh, o, c, h1, _⟩ := h
    simp only [AV.small]; exact (List.getElem?_eq_some_iff.1 h1).1
  | .slice tk xs, cs, h => by
    simp only [relC] at h
    obtain ⟨ad, a, c, es, css, rfl, had, hes, h1, h2, h3, h4, h5⟩ := h
    simp only [AV.small]
    refine ⟨fun t ht => ?_, relEs_small hes⟩
    subst ht; obtain ⟨e, he, _⟩ := h5; exact (List.getElem?_eq_some_iff.1 he).1
  | .eptr v, cs, h => by
    simp only [relC] at h; obtain ⟨b, o, cv, h1, h2, h3, h4⟩ := h
    simp only [AV.small]; exact relC_small h2
  | .agg ps, cs, h => by simp only [relC] at h; simp only [AV.small]; exact relPs_small h
  | .iface t v, cs, h => by simp only [relC] at h; obtain ⟨x, h1, h2, h3⟩ := h; simp only [AV.small]; exact relC_small h2
  | .fn f a b, cs, h => by simp only [relC] at h; obtain ⟨x, y, h1, h2, h3⟩ := h; simp only [AV.small]; exact ⟨relVs_small h2, relVs_small h3⟩
theorem relPs_small : ∀ {ps : List AV} {cs : List Value}, relPs g w ps cs → AV.smalls g.objs.length g.toks.length ps
  | [], cs, h => by simp only [AV.smalls]
  | p :: ps, cs, h => by simp only [relPs] at h; obtain ⟨c1, c2, h1, h2, h3⟩ := h; simp only [AV.smalls]; exact ⟨relC_small h2, relPs_small h3⟩
theorem relEs_small {es : Nat} : ∀ {ps : List AV} {cs : List Value}, relEs g w es ps cs → AV.smalls g.objs.length g.toks.length ps
  | [], cs, h => by simp only [AV.smalls]
  | p :: ps, cs, h => by simp only [relEs] at h; obtain ⟨c1, c2, h1, h0, h2, h3⟩ := h; simp only [AV.smalls]; exact ⟨relC_small h2, relEs_small h3⟩
theorem relVs_small : ∀ {vs : List AV} {l : List Value}, relVs g w vs l → AV.smalls g.objs.length g.toks.length vs
  | [], l, h => by simp only [AV.smalls]
  | v :: vs, l, h => by simp only [relVs] at h; obtain ⟨x, r, h1, h2, h3, h4⟩ := h; simp only [AV.smalls]; exact ⟨relC_small h2, relVs_small h4⟩
end

mutual
theorem relC_cut {n m : Nat} : ∀ {v : AV} {cs : List Value}, v.small n m → relC g w v cs → relC (g.cut n m) w v cs
  | .undef, cs, hn, h | .bool _, cs, hn, h | .int _ _, cs, hn, h | .str _, cs, hn, h | .nilFn, cs, hn, h | .lit _, cs, hn, h | .nilIface, cs, hn, h | .ptr none, cs, hn, h | .mp none, cs, hn, h | .dig _, cs, hn, h => by
    simp only [relC] at h ⊢; exact h
  | .ptr (some (i, p)), cs, hn, h => by
    simp only [AV.small] at hn
    simp only [relC] at h ⊢; obtain ⟨b, sh, o, h1, h2⟩ := h
    exact ⟨b, sh, o, by simp only [G.cut, List.getElem?_take]; rw [if_pos hn]; exact h1, h2⟩
  | .mp (some i), cs, hn, h => by
    simp only [AV.small] at hn
    simp only [relC] at h ⊢; obtain ⟨b, sh, h1, h2⟩ := h
    exact ⟨b, sh, by simp only [G.cut, List.getElem?_take]; rw [if_pos hn]; exact h1, h2⟩
  | .arr i p k, cs, hn, h => by
    simp only [AV.small] at hn
    simp only [relC] at h ⊢; obtain ⟨b, sh, o, c, h1, h2⟩ := h
    exact ⟨b, sh, o, c, by simp only [G.cut, List.getElem?_take]; rw [if_pos hn]; exact h1, h2⟩
  | .slice tk xs, cs, hn, h => by
    simp only [AV.small] at hn
    simp only [relC] at h ⊢
    obtain ⟨ad, a, c, es, css, rfl, had, hes, h1, h2, h3, h4, h5⟩ := h
    refine ⟨ad, a, c, es, css, rfl, had, relEs_cut hn.2 hes, h1, h2, h3, h4, ?_⟩
    cases tk with
    | none => trivial
    | full => exact h5
    | lit => exact h5
    | own t =>
      obtain ⟨e, he, h6⟩ := h5
      exact ⟨e, by simp only [G.cut, List.getElem?_take]; rw [if_pos (hn.1 t rfl)]; exact he, h6⟩
  | .eptr v, cs, hn, h => by
    simp only [AV.small] at hn
    simp only [relC] at h ⊢
    obtain ⟨b, o, cv, h1, h2, h3, h4⟩ := h
    exact ⟨b, o, cv, h1, relC_cut hn h2, h3, h4⟩
  | .agg ps, cs, hn, h => by
    simp only [AV.small] at hn
    simp only [relC] at h ⊢
    exact relPs_cut hn h
  | .iface t v, cs, hn, h => by
    simp only [AV.small] at hn
    simp only [relC] at h ⊢
    obtain ⟨x, h1, h2, h3⟩ := h
    exact ⟨x, h1, relC_cut hn h2, h3⟩
  | .fn f a b, cs, hn, h => by
    simp only [AV.small] at hn
    simp only [relC] at h ⊢
    obtain ⟨x, y, h1, h2, h3⟩ := h
    exact ⟨x, y, h1, relVs_cut hn.1 h2, relVs_cut hn.2 h3⟩
  | .tuple _, cs, hn, h => by simp [relC] at h
theorem relPs_cut {n m : Nat} : ∀ {ps : List AV} {cs : List Value}, AV.smalls n m ps → relPs g w ps cs → relPs (g.cut n m) w ps cs
  | [], cs, hn, h => by simp only [relPs] at h ⊢; exact h
  | p :: ps, cs, hn, h => by
    simp only [AV.smalls] at hn
    simp only [relPs] at h ⊢
    obtain ⟨c1, c2, h1, h2, h3⟩ := h
    exact ⟨c1, c2, h1, relC_cut hn.1 h2, relPs_cut hn.2 h3⟩
theorem relEs_cut {n m es : Nat} : ∀ {ps : List AV} {cs : List Value}, AV.smalls n m ps → relEs g w es ps cs → relEs (g.cut n m) w es ps cs
  | [], cs, hn, h => by simp only [relEs] at h ⊢; exact h
  | p :: ps, cs, hn, h => by
    simp only [AV.smalls] at hn
    simp only [relEs] at h ⊢
    obtain ⟨c1, c2, h1, h0, h2, h3⟩ := h
    exact ⟨c1, c2, h1, h0, relC_cut hn.1 h2, relEs_cut hn.2 h3⟩
theorem relVs_cut {n m : Nat} : ∀ {vs : List AV} {l : List Value}, AV.smalls n m vs → relVs g w vs l → relVs (g.cut n m) w vs l
  | [], l, hn, h => by simp only [relVs] at h ⊢; exact h
  | v :: vs, l, hn, h => by
    simp only [AV.smalls] at hn
    simp only [relVs] at h ⊢
    obtain ⟨x, r, h1, h2, h3, h4⟩ := h
    exact ⟨x, r, h1, relC_cut hn.1 h2, h3, relVs_cut hn.2 h4⟩
end

def Ext (σ σ' : AST) : Prop := ∃ O T, σ' = ⟨σ.objs ++ O, σ.toks ++ T⟩

theorem Ext.refl (σ : AST) : Ext σ σ := ⟨[], [], by simp⟩
theorem Ext.trans {a b c : AST} (h : Ext a b) (k : Ext b c) : Ext a c := by
  obtain ⟨O, T, rfl⟩ := h; obtain ⟨O', T', rfl⟩ := k; exact ⟨O ++ O', T ++ T', by simp⟩
theorem Ext.push (σ : AST) (o : AObj) : Ext σ (σ.push o) := ⟨[o], [], by simp [AST.push]⟩
theorem Ext.tok (σ : AST) (n es : Nat) : Ext σ (σ.tok n es) := ⟨[], [(n, es)], by simp [AST.tok]⟩
theorem Ext.setTok {σ σ' : AST} (h : Ext σ σ') {t n es : Nat} (ht : σ.toks.length ≤ t) : Ext σ (σ'.setTok t n es) := by
  obtain ⟨O, T, rfl⟩ := h
  exact ⟨O, T.set (t - σ.toks.length) (n, es), by simp only [AST.setTok]; rw [List.set_append]; simp [show ¬ t < σ.toks.length by omega]⟩
theorem Ext.set {σ σ' : AST} (h : Ext σ σ') {i : Nat} {o : AObj} (hi : σ.objs.length ≤ i) : Ext σ (σ'.set i o) := by
  obtain ⟨O, T, rfl⟩ := h
  exact ⟨O.set (i - σ.objs.length) o, T, by simp only [AST.set]; rw [List.set_append]; simp [show ¬ i < σ.objs.length by omega]⟩

theorem inv_cut (hI0 : Inv g σ w) (hE : Ev g w g' w') (hI : Inv g' σ' w') (hx : Ext σ σ') : Inv (g'.cut σ.objs.length σ.toks.length) σ w' ∧ Ev g w (g'.cut σ.objs.length σ.toks.length) w' := by
  obtain ⟨O, T, rfl⟩ := hx
  have hn := hI.nobj
  have ht := hI.ntok
  simp only [List.length_append] at hn ht
  have objs : ∀ {i : Nat} {o : AObj}, σ.objs[i]? = some o → (σ.objs ++ O)[i]? = some o ∧ ∀ x, g'.objs[i]? = some x → (g'.cut σ.objs.length σ.toks.length).objs[i]? = some x := by
    intro i o h
    have hlt := (List.getElem?_eq_some_iff.1 h).1
    exact ⟨by rw [List.getElem?_append_left hlt]; exact h, fun x hx => by simp [G.cut, List.getElem?_take, hlt, hx]⟩
  have uncut : ∀ {i : Nat} {x}, (g'.cut σ.objs.length σ.toks.length).objs[i]? = some x → g'.objs[i]? = some x := by
    intro i x h; simp only [G.cut, List.getElem?_take] at h; split at h
    · exact h
    · cases h
  have unt : ∀ {i : Nat} {x}, (g'.cut σ.objs.length σ.toks.length).toks[i]? = some x → g'.toks[i]? = some x ∧ i < σ.toks.length := by
    intro i x h; simp only [G.cut, List.getElem?_take] at h; split at h
    · rename_i hh; exact ⟨h, hh⟩
    · cases h
  constructor
  · refine ⟨hI.base, ?_, ?_, ?_, hI.rows, ?_, ?_, ?_⟩
    · simp [G.cut]; omega
    · intro i o ho hl
      obtain ⟨h1, h2⟩ := objs ho
      obtain ⟨b, sh, hg, hb, hlim, hin⟩ := hI.obj i o h1 hl
      refine ⟨b, sh, h2 _ hg, hb, hlim, ?_⟩
      obtain ⟨b0, sh0, hg0, hb0, hlim0, hin0⟩ := hI0.obj i o ho hl
      have hgl : g.objs.length = σ.objs.length := hI0.nobj.symm
      have htl : g.toks.length = σ.toks.length := hI0.ntok.symm
      cases o with
      | gone => trivial
      | pin l o vs xs =>
        refine ⟨hin.1, hin.2.1, fun i v x h1 h2 => ?_⟩
        rcases hin.2.2 i v x h1 h2 with h | ⟨a1, a2⟩
        · exact .inl h
        · rcases hin0.2.2 i v x h1 h2 with h | ⟨b1, b2⟩
          · exact .inl h
          · have s1 := relC_small b1
            rw [hgl, htl] at s1
            exact .inr ⟨relC_cut s1 a1, a2⟩
      | cells v =>
        obtain ⟨_, _, _, hr0, _⟩ := hin0
        obtain ⟨c, e, hc, hr, hs⟩ := hin
        have := relC_small hr0
        rw [hgl, htl] at this
        exact ⟨c, e, hc, relC_cut this hr, hs⟩
      | map es ck =>
        obtain ⟨me0, hm0, hl0, hes0, _⟩ := hin0
        obtain ⟨me, hm, hl', hes, hbn, hinj⟩ := hin
        refine ⟨me, hm, hl', fun i e m hk hmm => ?_, hbn, hinj⟩
        have hi : i < es.length := (List.getElem?_eq_some_iff.1 hk).1
        obtain ⟨a0, a1, a2⟩ := hes i e m hk hmm
        obtain ⟨b0, b1, b2⟩ := hes0 i e me0[i] hk (by rw [Array.getElem?_eq_getElem (by omega)])
        have s1 := relC_small b1.1
        have s2 := relC_small b2.1
        rw [hgl, htl] at s1 s2
        exact ⟨a0, ⟨relC_cut s1 a1.1, a1.2⟩, ⟨relC_cut s2 a2.1, a2.2⟩⟩
    · intro i j o o' b sh sh' hi hj hl hl' hgi hgj
      exact hI.inj i j o o' b sh sh' (objs hi).1 (objs hj).1 hl hl' (uncut hgi) (uncut hgj)
    · simp [G.cut]; omega
    · intro t e he
      obtain ⟨h1, h2⟩ := unt he
      obtain ⟨a, b⟩ := hI.tok t e h1
      refine ⟨by rw [← a]; simp [List.getElem?_append_left h2], b⟩
    · intro t u e e' b o o' h1 h2
      exact hI.tinj t u e e' b o o' (unt h1).1 (unt h2).1
  · refine ⟨hE.os, hE.tape, hE.output, hE.size, hE.base, hE.old, ?_, hE.lim, ?_⟩
    · intro i x h
      have := (List.getElem?_eq_some_iff.1 h).1
      have h2 := hI0.nobj
      simp only [G.cut, List.getElem?_take]; rw [if_pos (by omega)]; exact hE.objs i x h
    · intro t e h
      have := (List.getElem?_eq_some_iff.1 h).1
      have h2 := hI0.ntok
      obtain ⟨e', h3, h4⟩ := hE.toks t e h
      exact ⟨e', by simp only [G.cut, List.getElem?_take]; rw [if_pos (by omega)]; exact h3, h4⟩

theorem TCalls.drop {f : FuncId} {args : List AV} (h : TCalls P f args σ fun v σ' => Ext σ σ' ∧ v.noRef = true ∧ K v.strip σ) : TCalls P f args σ K :=
  ⟨h.1, fun g w xs hI hr => (h.2 g w xs hI hr).mono fun e w' ⟨x, g', v, σ', he, h1, h2, h3, h4, h5, h6⟩ =>
    ⟨x, _, v.strip, σ, he, (inv_cut hI h1 h2 h4).2, (inv_cut hI h1 h2 h4).1, relV_strip h5 h3, h6⟩⟩

/-! ### Appending -/

def canApp (σ : AST) (tk : Tk) (n es : Nat) : Prop := match tk with
  | .full => True
  | .own k => σ.toks[k]? = some (n, es)
  | .none | .lit => False
def growT (σ : AST) : Tk → Tk
  | .full => .own σ.toks.length
  | tk => tk
def growS (σ : AST) (tk : Tk) (n es : Nat) : AST := match tk with
  | .full => σ.tok n es
  | .own k => σ.setTok k n es
  | .none | .lit => σ

theorem growT_growS {σ : AST} {tk : Tk} {n es : Nat} : growT (growS σ tk n es) (growT σ tk) = growT σ tk := by
  cases tk <;> rfl
theorem growS_growS {σ : AST} {tk : Tk} {n m n0 es es0 : Nat} (h : canApp σ tk n0 es0) : growS (growS σ tk n es) (growT σ tk) m es = growS σ tk m es := by
  cases tk with
  | none => exact h.elim
  | lit => exact h.elim
  | full => simp [growS, growT, AST.setTok, AST.tok, List.set_append]
  | own k => simp [growS, growT, AST.setTok, List.set_set]
theorem canApp_grow {σ : AST} {tk : Tk} {n n0 es es0 : Nat} (h : canApp σ tk n0 es0) : canApp (growS σ tk n es) (growT σ tk) n es := by
  cases tk with
  | none => exact h.elim
  | lit => exact h.elim
  | full => simp [canApp, growS, growT, AST.tok]
  | own k =>
    have : k < σ.toks.length := (List.getElem?_eq_some_iff.1 h).1
    simp [canApp, growS, growT, AST.setTok, this]
theorem canFull {σ : AST} {n es : Nat} : canApp σ .full n es := trivial
theorem canGrow {σ : AST} {n es : Nat} : canApp (growS σ .full n es) (growT σ .full) n es := canApp_grow (n0 := 0) (es0 := 0) trivial
theorem growFull {σ : AST} {n m es : Nat} : growS (growS σ .full n es) (growT σ .full) m es = growS σ .full m es := growS_growS (n0 := 0) (es0 := 0) trivial
theorem Ext.grow {σ σ' : AST} (h : Ext σ σ') {tk : Tk} {n es : Nat} (ht : tk = .full ∨ ∃ k, tk = .own k ∧ σ.toks.length ≤ k) : Ext σ (growS σ' tk n es) := by
  rcases ht with rfl | ⟨k, rfl, hk⟩
  · exact h.trans (Ext.tok _ _ _)
  · exact h.setTok hk
def tkNew (σ : AST) (tk : Tk) : Prop := tk = .full ∨ ∃ k, tk = .own k ∧ σ.toks.length ≤ k
theorem Ext.toks_le {σ σ' : AST} (h : Ext σ σ') : σ.toks.length ≤ σ'.toks.length := by obtain ⟨O, T, rfl⟩ := h; simp
theorem tkNew.grow {σ s : AST} {tk : Tk} (h : tkNew σ tk) (hx : Ext σ s) : tkNew σ (growT s tk) := by
  rcases h with rfl | ⟨k, rfl, hk⟩
  · exact .inr ⟨_, rfl, hx.toks_le⟩
  · exact .inr ⟨k, rfl, hk⟩
theorem Ext.growFull (σ : AST) (n es : Nat) : Ext σ (growS σ .full n es) := Ext.tok _ _ _

end Go.Aff

namespace Go.Aff

variable {P : Program} {σ σ' : AST} {K : AV → AST → Prop} {KV : AV → Prop} {ops : Array Oper} {τ : Env} {KE : Env → AST → Prop}

def gop (ops : Array Oper) (j : Nat) : Option Oper := ops[j]?
theorem gop_zero {o : Oper} {l : List Oper} : gop ⟨o :: l⟩ 0 = some o := nr rfl
theorem gop_succ {o : Oper} {l : List Oper} {n : Nat} : gop ⟨o :: l⟩ (n + 1) = gop ⟨l⟩ n := by simp [gop]

def seqI (P : Program) (ops : Array Oper) : List Nat → Env → AST → (Env → AST → Prop) → Prop
  | [], τ, σ, K => K τ σ
  | i :: r, τ, σ, K => match gop ops i with
    | none => False
    | some o => stepW P ops o τ σ fun v σ' => σ' = σ ∧ seqI P ops r (τ.putO o.dst v) σ' K

def pastOk (P : Program) (ops : Array Oper) (past : List (Nat × Env × AV)) (σ : AST) : Prop :=
  ∀ x ∈ past, ∀ o, ops[x.1]? = some o → stepW P ops o x.2.1 σ fun v' σ'' => v' = x.2.2 ∧ σ'' = σ

theorem seqI_awpD : ∀ (l : List Nat) (past : List (Nat × Env × AV)) (τ : Env) (σ : AST), pastOk P ops past σ → (∀ t, lenOk (τ t)) → seqI P ops l τ σ KE → awpD P ops l past τ σ KE
  | [], past, τ, σ, hp, hlen, h => h
  | i :: r, past, τ, σ, hp, hlen, h => by
    simp only [seqI] at h
    split at h
    · exact h.elim
    · rename_i o hk
      have hk : ops[i]? = some o := hk
      simp only [awpD, hk]
      cases he : effO P o with
      | true =>
        simp only [if_true]
        refine stepW_mono (fun v σ' hh => ?_) h
        obtain ⟨rfl, hh⟩ := hh
        exact ⟨fun x hx _ o ho => hp x hx o ho, fun hlv => seqI_awpD r past _ _ hp hlv hh⟩
      | false =>
        simp only [Bool.false_eq_true, if_false]
        obtain ⟨v, hv, hkk⟩ := stepW_det hlen he h
        refine hkk _ fun hlv => seqI_awpD r _ _ _ ?_ hlv hv.2
        intro x hx o' ho'
        rcases List.mem_cons.1 hx with rfl | hx
        · dsimp only at ho' ⊢
          rw [hk] at ho'; cases ho'
          exact hkk _ ⟨rfl, rfl⟩
        · exact hp x hx o' ho'

theorem awp_drawS {id : Nat} {ops : Array Oper} {Q : Exit → Env → AST → Prop} (ord : List Nat) (ho : ordOk P ops ord = true) (h : seqI P ops ord τ σ (Q .normal)) : awp P (.region id ops true) Q τ σ :=
  awp_draw ord ho fun hlen => seqI_awpD ord [] τ σ (fun x hx => by simp at hx) hlen h

def seqO (P : Program) (ops : Array Oper) (o : Option Oper) (r : List Nat) (τ : Env) (σ : AST) (K : Env → AST → Prop) : Prop := match o with
  | none => False
  | some o => stepW P ops o τ σ fun v σ' => σ' = σ ∧ seqI P ops r (τ.putO o.dst v) σ' K
theorem seqI_nil : seqI P ops [] τ σ KE = KE τ σ := nr rfl
theorem seqI_cons {i : Nat} {r : List Nat} : seqI P ops (i :: r) τ σ KE = seqO P ops (gop ops i) r τ σ KE := by simp only [seqI, seqO]
theorem seqO_some {o : Oper} {r : List Nat} : seqO P ops (some o) r τ σ KE = stepW P ops o τ σ (@Lam ⟨fun v σ' => σ' = σ ∧ @Later ⟨seqI P ops r (τ.putO o.dst v) σ' KE⟩⟩) := nr rfl

/-! ### Slices -/

structure ElemT (P : Program) (t e c b : Nat) : Prop where
  hu : P.underlying t = some (.slice e)
  hc : P.cellsOf e = c
  hb : P.bytesOf e = b
  hz : ∃ z, ZeroOf P e z
  ha : 0 < c

theorem append_slice {t u e c b : Nat} (E : ElemT P t e c b) {tk tk2 : Tk} {xs ys : List AV} (hu : isSliceT P u = true) (hcan : canApp σ tk xs.length c) (hys : ∀ v ∈ ys, v.size = c) (hxs : ∀ v ∈ xs, v.size = c)
    (hl : (xs.length + ys.length) * b ≤ 140737488355328) (hm : xs.length + ys.length ≤ maxL) (hK : K (.slice (growT σ tk) (xs ++ ys)) (growS σ tk (xs.length + ys.length) c)) :
    appendW P ⟨[t, u]⟩ (.slice tk xs) (.slice tk2 ys) σ K := by
  refine .inl ⟨t, u, e, xs, tk, ys, rfl, rfl, E.hu, rfl, ?_, E.hz, ?_, ?_, hm, ?_⟩
  · simp [elemsOf, isSliceT_iff hu]
  · rw [E.hc]; exact hys
  · rw [E.hb]; exact hl
  · cases tk with
    | none => exact hcan.elim
    | lit => exact hcan.elim
    | full => exact ⟨by rw [E.hc]; exact hxs, by rw [E.hc]; exact hK⟩
    | own k => exact ⟨by rw [E.hc]; exact hcan, by rw [E.hc]; exact hK⟩

theorem size_u8s {l : List UInt8} : ∀ v ∈ u8s l, v.size = 1 := by
  intro v hv; simp only [u8s, List.mem_map] at hv; obtain ⟨b, _, rfl⟩ := hv; simp [AV.size]

theorem u8s_length {l : List UInt8} : (u8s l).length = l.length := by simp [u8s]
theorem u8s_append {a b : List UInt8} : u8s (a ++ b) = u8s a ++ u8s b := by simp [u8s]
theorem unU8_u8s : ∀ {l : List UInt8}, unU8 (u8s l) = some l
  | [] => rfl
  | b :: r => by
    have := unU8_u8s (l := r)
    simp only [u8s] at this ⊢
    simp [unU8, this]

theorem append_bytes {t u e b : Nat} (E : ElemT P t e 1 b) {tk tk2 : Tk} {xs ys : List UInt8} (hu : isSliceT P u = true) (hcan : canApp σ tk xs.length 1)
    (hl : (xs.length + ys.length) * b ≤ 140737488355328) (hm : xs.length + ys.length ≤ maxL) (hK : K (.slice (growT σ tk) (u8s (xs ++ ys))) (growS σ tk (xs.length + ys.length) 1)) :
    appendW P ⟨[t, u]⟩ (.slice tk (u8s xs)) (.slice tk2 (u8s ys)) σ K :=
  append_slice E hu (by rw [u8s_length]; exact hcan) size_u8s size_u8s (by rw [u8s_length, u8s_length]; exact hl) (by rw [u8s_length, u8s_length]; exact hm) (by rw [u8s_length, u8s_length, ← u8s_append]; exact hK)

theorem append_text {t u e b : Nat} (E : ElemT P t e 1 b) {tk : Tk} {xs s : List UInt8} (hu : P.underlying u = some .string) (hcan : canApp σ tk xs.length 1)
    (hl : (xs.length + s.length) * b ≤ 140737488355328) (hm : xs.length + s.length ≤ maxL) (hK : K (.slice (growT σ tk) (u8s (xs ++ s))) (growS σ tk (xs.length + s.length) 1)) :
    appendW P ⟨[t, u]⟩ (.slice tk (u8s xs)) (.str s) σ K := by
  refine .inl ⟨t, u, e, u8s xs, tk, u8s s, rfl, rfl, E.hu, rfl, ?_, E.hz, ?_, ?_, ?_, ?_⟩
  · simp [elemsOf, hu]
  · rw [E.hc]; exact size_u8s
  · rw [E.hb, u8s_length, u8s_length]; exact hl
  · rw [u8s_length, u8s_length]; exact hm
  · rw [u8s_length, u8s_length, ← u8s_append]
    cases tk with
    | none => exact hcan.elim
    | lit => exact hcan.elim
    | full => exact ⟨by rw [E.hc]; exact size_u8s, by rw [E.hc]; exact hK⟩
    | own k => exact ⟨by rw [E.hc]; exact hcan, by rw [E.hc]; exact hK⟩

theorem build_slice {t e c b n : Nat} (E : ElemT P t e c b) {ps : List (Nat × AV)} (h1 : ps.map (·.1) = List.range n) (h2 : n * c ≤ 16777216) (h3 : ∀ v ∈ ps.map (·.2), fits P e v ∧ v.known = true) (hK : KV (.slice .full (ps.map (·.2)))) :
    buildSliceW P t n ps KV := ⟨e, E.hu, h1, by rw [E.hc]; exact h2, h3, E.hz, by rw [E.hc]; exact E.ha, .inl hK⟩

theorem build_byte {t e b : Nat} (E : ElemT P t e 1 b) (ha : aggT P e = some false) {n : Int} (h0 : 0 ≤ n) (h1 : n < 256) (hK : KV (.slice .full (u8s [UInt8.ofNat n.toNat]))) : buildSliceW P t 1 [(0, .int .u8 n)] KV := by
  refine build_slice E rfl (by decide) ?_ ?_
  · intro v hv
    simp only [List.map_cons, List.map_nil, List.mem_singleton] at hv
    subst hv
    exact ⟨⟨by rw [ha]; rfl, by rw [E.hc]; simp [AV.size]⟩, rfl⟩
  · have : u8s [UInt8.ofNat n.toNat] = [.int .u8 n] := by
      simp only [u8s, List.map_cons, List.map_nil]
      have : ((UInt8.ofNat n.toNat).toNat : Int) = n := by
        simp [UInt8.toNat_ofNat']; omega
      rw [this]
    rw [this] at hK
    exact hK

theorem conv_bytes {s d e : Nat} (hs : P.underlying s = some (.slice e)) (he : P.underlying e = some (.int .u8)) (hd : P.underlying d = some .string) {tk : Tk} {l : List UInt8} : convW P s d (.slice tk (u8s l)) σ K = K (.str l) σ := by
  simp only [convW, hs, hd, unU8_u8s, Option.some.injEq, TypeDesc.slice.injEq]
  simp only [eq_iff_iff]
  constructor
  · rintro (⟨_, _, rfl, _, _, rfl, h⟩ | ⟨_, rfl, _⟩)
    · exact h
    · rw [hs] at hd; cases hd
  · intro h; exact .inl ⟨_, _, rfl, he, trivial, rfl, h⟩
theorem conv_bytes' {s d : Nat} (hs : isSliceT P s = true) (he : P.underlying (elemT P s) = some (.int .u8)) (hd : P.underlying d = some .string) {tk : Tk} {l : List UInt8} : convW P s d (.slice tk (u8s l)) σ K = K (.str l) σ :=
  conv_bytes (isSliceT_iff hs) he hd

theorem awp_rounds {α : Type} {c : Code} {Q : Exit → Env → AST → Prop} (S : α → Env → AST → Prop) (μ : α → Nat) (x0 : α) (h0 : S x0 τ σ)
    (h : ∀ x τ σ, S x τ σ → awp P c (thenQ (@LamE ⟨fun τ' σ' => @Later ⟨∃ x', μ x' < μ x ∧ S x' τ' σ'⟩⟩) Q) τ σ) : awp P (.loop c) Q τ σ :=
  awp_loop_of S μ x0 h0 fun x τ σ hx => by
    have := h x τ σ hx
    have e : (@LamE ⟨fun τ' σ' => @Later ⟨∃ x', μ x' < μ x ∧ S x' τ' σ'⟩⟩) = (@LamE ⟨fun τ' σ' => ∃ m, m < μ x ∧ ∃ x', S x' τ' σ' ∧ μ x' = m⟩) := by
      funext τ' σ'
      simp only [LamE, Later, eq_iff_iff]
      constructor
      · rintro ⟨x', h1, h2⟩; exact ⟨_, h1, x', h2, rfl⟩
      · rintro ⟨_, h1, x', h2, rfl⟩; exact ⟨x', h1, h2⟩
    rwa [e] at this

theorem nth_get {α : Type} {l : List α} {i : Nat} {y : α} {F : α → Prop} (h : l[i]? = some y) (hF : F y) : nthW l (i : Int) (@LamA _ ⟨F⟩) := by
  refine ⟨by omega, ?_, fun z hz => ?_⟩
  · have := (List.getElem?_eq_some_iff.1 h).1; omega
  · have : ((i : Int)).toNat = i := by omega
    rw [this, h] at hz
    cases hz; exact hF
theorem get_lt {α : Type} {l : List α} {i : Nat} (h : i < l.length) : ∃ y, l[i]? = some y := ⟨_, List.getElem?_eq_getElem h⟩

theorem tdiv_nat (n m : Nat) : Int.tdiv (n : Int) (m : Int) = ((n / m : Nat) : Int) := (Int.ofNat_tdiv n m).symm
theorem tmod_nat (n m : Nat) : Int.tmod (n : Int) (m : Int) = ((n % m : Nat) : Int) := (Int.ofNat_tmod n m).symm
theorem tdiv10_neg {n : Int} (h : n ≤ 0) : n.tdiv 10 = -((-n) / 10) := by
  have := Int.neg_tdiv (a := -n) (b := 10)
  rw [Int.neg_neg] at this
  rw [this, Int.tdiv_eq_ediv_of_nonneg (by omega)]
theorem tmod10_neg {n : Int} (h : n ≤ 0) : n.tmod 10 = -((-n) % 10) := by
  have := Int.neg_tmod (a := -n) (b := 10)
  rw [Int.neg_neg] at this
  rw [this, Int.tmod_eq_emod_of_nonneg (by omega)]
theorem wrap_i64 {n : Int} (h0 : -9223372036854775808 ≤ n) (h1 : n ≤ 9223372036854775807) : IntKind.i64.wrap n = n := by
  rw [IntKind.wrap_i64]; omega
theorem wrap_u64 {n : Int} (h0 : 0 ≤ n) (h1 : n < 18446744073709551616) : IntKind.u64.wrap n = n := by
  rw [IntKind.wrap_u64]; omega
theorem wrap_u8 {n : Int} (h0 : 0 ≤ n) (h1 : n < 256) : IntKind.u8.wrap n = n := by
  rw [IntKind.wrap_u8]; omega

def extractO (v : Option AV) (K : AV → Prop) : Prop := match v with
  | some v => K v
  | none => False
theorem known_int {k : IntKind} {n : Int} : (AV.int k n).known = true := rfl
theorem known_str {s : List UInt8} : (AV.str s).known = true := rfl
theorem known_bool {b : Bool} : (AV.bool b).known = true := rfl
theorem known_slice {tk : Tk} {xs : List AV} : (AV.slice tk xs).known = true := rfl
theorem known_ptr {p : Option (Nat × List Nat)} : (AV.ptr p).known = true := rfl
theorem known_eptr {v : AV} : (AV.eptr v).known = true := rfl
theorem known_agg {ps : List AV} : (AV.agg ps).known = true := rfl
theorem known_dig {d : Dig} : (AV.dig d).known = true := rfl
theorem known_fn {f : Fn} {a b : List AV} : (AV.fn f a b).known = true := rfl
theorem known_mp {r : Option Nat} : (AV.mp r).known = true := rfl
theorem res_two {a b : Nat} : resW P [.tmp a, .tmp b] τ σ KV = (((τ a).known = true ∧ (τ b).known = true) ∧ @Later ⟨KV (.tuple [τ a, τ b])⟩) := by
  simp [resW, resList, oneRes, Later]
theorem res_three {a b c : Nat} : resW P [.tmp a, .tmp b, .tmp c] τ σ KV = (((τ a).known = true ∧ (τ b).known = true ∧ (τ c).known = true) ∧ @Later ⟨KV (.tuple [τ a, τ b, τ c])⟩) := by
  simp [resW, resList, oneRes, Later]
theorem res_four {a b c d : Nat} : resW P [.tmp a, .tmp b, .tmp c, .tmp d] τ σ KV = (((τ a).known = true ∧ (τ b).known = true ∧ (τ c).known = true ∧ (τ d).known = true) ∧ @Later ⟨KV (.tuple [τ a, τ b, τ c, τ d])⟩) := by
  simp [resW, resList, oneRes, Later]
theorem res_none : resW P [] τ σ KV = KV (.tuple []) := by simp [resW, resList]
theorem extract_at {vs : List AV} {i : Nat} : extractW (.tuple vs) i KV = extractO vs[i]? KV := nr rfl
theorem extractO_some {v : AV} : extractO (some v) KV = KV v := nr rfl
theorem absV_empty : absV (.string ⟨#[]⟩) = .str [] := nr rfl

attribute [go_sem ↓] res_two res_three res_four res_none
attribute [go_sem] known_int known_str known_bool known_slice known_ptr known_eptr known_agg known_dig known_fn known_mp extract_at extractO_some absV_empty List.getElem?_cons_zero List.getElem?_cons_succ List.length_nil List.length_cons Nat.reduceLeDiff
attribute [go_sem] beq_self_eq_true bne_self_eq_false ne_eq not_false_eq_true Int.reduceEq Int.reduceLT Int.reduceNeg Int.reduceBEq Int.reduceBNe Nat.reduceBEq decide_true decide_false Bool.true_and Bool.false_and Bool.and_true Bool.and_false Bool.or_false Bool.or_true Bool.false_or Bool.true_or List.cons_append List.nil_append
attribute [go_sem ↓] gop_zero gop_succ seqI_nil seqI_cons seqO_some
attribute [go_sem] conv_bytes'
end Go.Aff

namespace Go.Aff

variable {P : Program} {σ σ' : AST} {K : AV → AST → Prop} {KV : AV → Prop} {KS : AST → Prop}

def objCell (o : AObj) (p : List Nat) : Option AV := match o with
  | .cells v => v.at p
  | _ => none
def cellAt (σ : AST) (j : Nat) (p : List Nat) : Option AV := (σ.objs[j]?).bind fun o => objCell o p

theorem cellAt_new {o : AObj} {p : List Nat} : cellAt (σ.push o) σ.objs.length p = objCell o p := by simp [cellAt, AST.push]
theorem cellAt_tok {n es j : Nat} {p : List Nat} : cellAt (σ.tok n es) j p = cellAt σ j p := nr rfl
theorem cellAt_setTok {t n es j : Nat} {p : List Nat} : cellAt (σ.setTok t n es) j p = cellAt σ j p := nr rfl
theorem cellAt_growS {tk : Tk} {n es j : Nat} {p : List Nat} : cellAt (growS σ tk n es) j p = cellAt σ j p := by cases tk <;> rfl
theorem objCell_cells {v : AV} {p : List Nat} : objCell (.cells v) p = v.at p := nr rfl
theorem at_agg {ps : List AV} {i : Nat} {p : List Nat} : (AV.agg ps).at (i :: p) = (ps[i]?).bind fun v => v.at p := nr rfl
theorem length_push {o : AObj} : (σ.push o).objs.length = σ.objs.length + 1 := by simp [AST.push]
theorem length_tok {n es : Nat} : (σ.tok n es).objs.length = σ.objs.length := nr rfl
theorem length_setTok {t n es : Nat} : (σ.setTok t n es).objs.length = σ.objs.length := nr rfl
theorem length_growS {tk : Tk} {n es : Nat} : (growS σ tk n es).objs.length = σ.objs.length := by cases tk <;> rfl
theorem length_set {i : Nat} {o : AObj} : (σ.set i o).objs.length = σ.objs.length := by simp [AST.set]

def loadC (P : Program) (t : TypeId) (x : Option AV) (K : AV → Prop) : Prop := match x with
  | some x => fits P t x ∧ K x
  | none => False
theorem load_ptr {t : TypeId} {j : Nat} {p : List Nat} : loadW P σ t (.ptr (some (j, p))) KV = loadC P t (cellAt σ j p) KV := by
  simp only [loadW, cellAt]
  cases h : σ.objs[j]? with
  | none => simp [loadC]
  | some o =>
    cases o with
    | cells v => simp only [Option.bind_some, objCell, loadC]; cases v.at p <;> rfl
    | _ => simp [objCell, loadC]
theorem loadC_some {t : TypeId} {x : AV} : loadC P t (some x) KV = (fits P t x ∧ @Later ⟨KV x⟩) := nr rfl

def fieldAddrC (P : Program) (t : TypeId) (x : Option AV) (j : Nat) (p : List Nat) (i : Nat) (K : AV → Prop) : Prop := match x with
  | some (.agg ps) => match ps[i]? with
    | some x => partIs P t ps i x ∧ 0 < x.size ∧ K (.ptr (some (j, p ++ [i])))
    | none => False
  | _ => False
def fieldAddrP (P : Program) (t : TypeId) (ps : List AV) (x : Option AV) (j : Nat) (p : List Nat) (i : Nat) (K : AV → Prop) : Prop := match x with
  | some x => partIs P t ps i x ∧ 0 < x.size ∧ K (.ptr (some (j, p ++ [i])))
  | none => False
theorem fieldAddr_ptr {t : TypeId} {j i : Nat} {p : List Nat} : fieldAddrW P σ t (.ptr (some (j, p))) i KV = fieldAddrC P t (cellAt σ j p) j p i KV := by
  simp only [fieldAddrW, cellAt]
  cases h : σ.objs[j]? with
  | none => simp [fieldAddrC]
  | some o =>
    cases o with
    | cells v => simp only [Option.bind_some, objCell, fieldAddrC]; cases v.at p <;> rfl
    | _ => simp [objCell, fieldAddrC]
theorem fieldAddrC_agg {t : TypeId} {ps : List AV} {j i : Nat} {p : List Nat} : fieldAddrC P t (some (.agg ps)) j p i KV = fieldAddrP P t ps ps[i]? j p i KV := nr rfl
theorem fieldAddrP_some {t : TypeId} {ps : List AV} {x : AV} {j i : Nat} {p : List Nat} : fieldAddrP P t ps (some x) j p i KV = ((partIs P t ps i x ∧ 0 < x.size) ∧ @Later ⟨KV (.ptr (some (j, p ++ [i])))⟩) := by
  simp [fieldAddrP, Later, and_assoc]
def fieldAddrE (P : Program) (t : TypeId) (ps : List AV) (x : Option AV) (i : Nat) (K : AV → Prop) : Prop := match x with
  | some x => partIs P t ps i x ∧ 0 < x.size ∧ K (.eptr x)
  | none => False
theorem fieldAddr_eptr {t : TypeId} {ps : List AV} {i : Nat} : fieldAddrW P σ t (.eptr (.agg ps)) i KV = fieldAddrE P t ps ps[i]? i KV := nr rfl
theorem fieldAddrE_some {t : TypeId} {ps : List AV} {x : AV} {i : Nat} : fieldAddrE P t ps (some x) i KV = ((partIs P t ps i x ∧ 0 < x.size) ∧ @Later ⟨KV (.eptr x)⟩) := by
  simp [fieldAddrE, Later, and_assoc]
def fieldE (P : Program) (t : TypeId) (ps : List AV) (x : Option AV) (i : Nat) (K : AV → Prop) : Prop := match x with
  | some x => partIs P t ps i x ∧ K x
  | none => False
theorem field_agg {t : TypeId} {ps : List AV} {i : Nat} : fieldW P t (.agg ps) i KV = fieldE P t ps ps[i]? i KV := nr rfl
theorem fieldE_some {t : TypeId} {ps : List AV} {x : AV} {i : Nat} : fieldE P t ps (some x) i KV = (partIs P t ps i x ∧ @Later ⟨KV x⟩) := nr rfl

theorem partIs_of {t : TypeId} {i o : Nat} {T : TypeId} (h : placeOf P t i = some (o, T)) {ps : List AV} {x : AV} : partIs P t ps i x = (o = AV.sizes (ps.take i) ∧ fits P T x) := by
  simp only [partIs, h, Option.some.injEq, Prod.mk.injEq, eq_iff_iff]
  constructor
  · rintro ⟨_, ⟨h1, rfl⟩, h2⟩; exact ⟨h1, h2⟩
  · rintro ⟨h1, h2⟩; exact ⟨T, ⟨h1, rfl⟩, h2⟩

attribute [go_sem] cellAt_new cellAt_tok cellAt_setTok cellAt_growS objCell_cells at_nil at_agg length_push length_tok length_setTok length_growS length_set load_ptr loadC_some fieldAddr_ptr fieldAddrC_agg fieldAddrP_some
attribute [go_sem] fieldAddr_eptr fieldAddrE_some field_agg fieldE_some Option.bind_some List.take_zero List.take_succ_cons Nat.reduceEqDiff Nat.zero_add Nat.zero_lt_one and_self List.map_cons List.map_nil List.append_nil
end Go.Aff

namespace Go.Aff

variable {g g' : G} {w w' : World} {σ σ' : AST} {P : Program}

def rec (fn : FuncId) (tm : Array Value) (ps : Array Tmp) (assign body : Code) (D : Nat) (st : LoopState) (pe : Option Code) : Obj :=
  .loop { state := st, pending := pe, fn, tmps := tm, params := ps, assign, body, defers := D }

def envR (vs : List AV) (ps : List Tmp) (args : List AV) : Env := (ps.zip args).foldl (fun τ p => τ.put p.1 p.2) (env0 vs)

theorem relE_zip : ∀ {ps : List Tmp} {args : List AV} {xs : List Value} {τ : Env} {tm : Array Value}, relE g w τ tm → (∀ p ∈ ps, p < tm.size) → relA g w args xs →
    relE g w ((ps.zip args).foldl (fun τ p => τ.put p.1 p.2) τ) ((ps.zip xs).foldl (fun t p => t.setIfInBounds p.1 p.2) tm) ∧ ((ps.zip xs).foldl (fun t p => t.setIfInBounds p.1 p.2) tm).size = tm.size
  | [], _, _, _, _, h, _, _ => by simp; exact h
  | p :: ps, [], [], _, _, h, _, _ => by simp; exact h
  | p :: ps, [], x :: xs, _, _, h, _, ha => by simp [relA] at ha
  | p :: ps, v :: vs, [], _, _, h, _, ha => by simp [relA] at ha
  | p :: ps, v :: vs, x :: xs, τ, tm, h, hp, ha => by
    simp only [List.zip_cons_cons, List.foldl_cons]
    have h1 := relE_put (a := { tmps := tm, defers := [] }) (d := some p) h (fun k hk => by cases hk; exact hp p (by simp)) (ha.2 0 v x rfl rfl)
    simp only [Env.putO, Act.put] at h1
    have h2 := relE_zip (ps := ps) (args := vs) (xs := xs) h1 (fun q hq => by simp; exact hp q (by simp [hq])) ⟨by have := ha.1; simp at this; exact this, fun i v x hv hx => ha.2 (i + 1) v x hv hx⟩
    exact ⟨h2.1, by rw [h2.2]; simp⟩

def roundQ (il l : Nat) (vs : List AV) (xs : List Value) (R : LoopState → Option Code → Obj) (K : AV → AST → Prop) : Exit → Env → AST → Prop := fun e τ σ =>
  σ.objs[il]? = some (.pin l (R .busy none) vs xs) ∧ match e with
  | .normal => K (.bool true) (σ.set il (.pin l (R .ready none) vs xs))
  | .ret => K (.bool false) (σ.set il (.pin l (R .done (some .ret)) vs xs))
  | .exit id => K (.bool false) (σ.set il (.pin l (R .done (some (.exit id))) vs xs))
  | .goto t => K (.bool false) (σ.set il (.pin l (R .done (some (.goto t))) vs xs))
  | _ => False

theorem ycalls_of (hm : P.follows .mixedOrders = true) {fn : FuncId} {tm : Array Value} {ps : Array Tmp} {assign body : Code} {D l il : Nat} {vs args : List AV} {K : AV → AST → Prop}
    (hσ : σ.objs[il]? = some (.pin l (rec fn tm ps assign body D .ready none) vs tm.toList)) (hps : args.length = ps.size) (hp : ∀ p ∈ ps.toList, p < tm.size)
    (hvl : vs.length ≤ tm.size) (hd1 : dstOk tm.size assign = true) (hd2 : dstOk tm.size body = true)
    (h : awp P assign (thenQ (fun τ σ1 => σ1.objs[il]? = some (.pin l (rec fn tm ps assign body D .ready none) vs tm.toList) ∧
      awp P body (roundQ il l vs tm.toList (rec fn tm ps assign body D) K) τ (σ1.set il (.pin l (rec fn tm ps assign body D .busy none) vs tm.toList))) (fun _ _ _ => False)) (envR vs ps.toList args) σ) :
    YCalls P l args σ K := by
  intro g w xs hI hA
  obtain ⟨hl, hr⟩ := inv_pin_heap hI hσ
  have hxs : xs.size = ps.size := by have := hA.1; simp at this; omega
  refine ⟨fn, _, assign, body, run_yield hl hxs, roundIn_of_wpIn trivial ?_⟩
  dsimp only
  have h0 : relE g w (env0 vs) tm := by
    intro t
    unfold env0
    rw [List.getD_eq_getElem?_getD]
    cases hv : vs[t]? with
    | none => exact .inl rfl
    | some v =>
      by_cases ht : t < tm.size
      · have hx : tm.toList[t]? = some tm[t] := by simp [ht]
        rcases hr t v _ hv hx with rfl | h
        · exact .inl rfl
        · simp only [Option.getD_some, Array.getD, ht, dif_pos]; exact .inr (.inr h)
      · have := (List.getElem?_eq_some_iff.1 hv).1
        omega
  have htm : (ps.zip xs).foldl (fun tmps (t, a) => tmps.setIfInBounds t a) tm = (ps.toList.zip xs.toList).foldl (fun t p => t.setIfInBounds p.1 p.2) tm := by
    rw [← Array.foldl_toList, Array.toList_zip]
  rw [htm]
  obtain ⟨hz, hzs⟩ := relE_zip (ps := ps.toList) h0 hp hA
  have s1 := awp_sound (r0 := some l) (n := tm.size) hm assign (a := { tmps := (ps.toList.zip xs.toList).foldl (fun t p => t.setIfInBounds p.1 p.2) tm, defers := [] }) hd1 h hI hz hzs
  refine wpIn_mono s1 ?_
  rintro e a1 w1 ⟨g1, τ1, σ1, hE1, hI1, hr1, hn1, hds1, hq1⟩
  cases e with
  | normal =>
    obtain ⟨hs1, hb⟩ := hq1
    obtain ⟨hl1, hE2, hI2⟩ := inv_pin (o' := rec fn tm ps assign body D .busy none) hI1 hs1
    refine ⟨_, run_beginRound hl1 rfl, ?_⟩
    have s2 := awp_sound (r0 := some l) (n := tm.size) hm body hd2 hb hI2 (relE_mono hE2 hr1) hn1
    refine wpIn_mono s2 ?_
    rintro e a3 w3 ⟨g3, τ3, σ3, hE3, hI3, hr3, hn3, hds3, hs3, hq3⟩
    have hEE := hE1.trans (hE2.trans hE3)
    have fin : ∀ (jump : Option Code) (st : LoopState), st = (if jump.isNone then .ready else .done) → K (.bool jump.isNone) (σ3.set il (.pin l (rec fn tm ps assign body D st jump) vs tm.toList)) →
        ∃ v w', (Instr.endRound l jump).run P w3 = .ok v w' ∧ ∃ x g' v' σ', Ending.returned v = .returned x ∧ Ev g w g' w' ∧ Inv g' σ' w' ∧ relV g' w' v' x ∧ K v' σ' := by
      intro jump st hst hk
      obtain ⟨hl3, hE4, hI4⟩ := inv_pin (o' := rec fn tm ps assign body D st jump) hI3 hs3
      refine ⟨_, _, run_endRound jump hl3, _, g3, .bool jump.isNone, _, rfl, hEE.trans ?_, ?_, relV_mkBool _, hk⟩
      · rw [← hst]; exact hE4
      · rw [← hst]; exact hI4
    cases e with
    | normal => exact fin none .ready rfl hq3
    | ret => exact fin (some .ret) .done rfl hq3
    | exit id => exact fin (some (.exit id)) .done rfl hq3
    | goto t => exact fin (some (.goto t)) .done rfl hq3
    | panic ch => exact hq3.elim
    | outgrown => exact hq3.elim
  | exit id => exact hq1.elim
  | goto l => exact hq1.elim
  | ret => exact hq1.elim
  | panic ch => exact hq1.elim
  | outgrown => exact hq1.elim

/-! ### Code with marks -/
def LiftX (n : Nat) (g0 : G) (w0 : World) (Q : Exit → List Deferred → Env → AST → Prop) : Exit → Act → World → Prop := fun e a w =>
  ∃ g τ σ, Ev g0 w0 g w ∧ Inv g σ w ∧ relE g w τ a.tmps ∧ a.tmps.size = n ∧ Q e a.defers τ σ
def wpX (P : Program) (n : Nat) (c : Code) (Q : Exit → List Deferred → Env → AST → Prop) (ds : List Deferred) (τ : Env) (σ : AST) : Prop :=
  ∀ (g : G) (w : World) (a : Act), Inv g σ w → relE g w τ a.tmps → a.tmps.size = n → a.defers = ds → c.wpIn (FR none) 0 P (LiftX n g w Q) a w
theorem LiftX.trans {n : Nat} {Q : Exit → List Deferred → Env → AST → Prop} {e : Exit} {a : Act} {w0 w1 : World} {g0 g1 : G} (hE : Ev g0 w0 g1 w1) (h : LiftX n g1 w1 Q e a w) : LiftX n g0 w0 Q e a w := by
  obtain ⟨g2, τ, σ, h1, h2⟩ := h
  exact ⟨g2, τ, σ, hE.trans h1, h2⟩
theorem wpX_awp {n : Nat} {c : Code} {Q : Exit → List Deferred → Env → AST → Prop} {ds : List Deferred} {τ : Env} (hm : P.follows .mixedOrders = true) (hd : dstOk n c = true) (h : (∀ t, lenOk (τ t)) → awp P c (fun e τ σ => Q e ds τ σ) τ σ) : wpX P n c Q ds τ σ := by
  intro g w a hI hr hn hds
  refine wpIn_mono (awp_sound (r0 := none) hm c hd (h fun t => lenOk_of (hr t)) hI hr hn) ?_
  rintro e a' w' ⟨g', τ', σ', hE, hI', hr', hn', hds', hq⟩
  exact ⟨g', τ', σ', hE, hI', hr', hn', by rw [hds', hds]; exact hq⟩
theorem wpX_seq {n : Nat} {x y : Code} {Q : Exit → List Deferred → Env → AST → Prop} {ds : List Deferred} {τ : Env} (h : wpX P n x (fun e ds τ σ => match e with | .normal => wpX P n y Q ds τ σ | e => Q e ds τ σ) ds τ σ) : wpX P n (.seq x y) Q ds τ σ := by
  intro g w a hI hr hn hds
  refine wpIn_seq (wpIn_mono (h g w a hI hr hn hds) ?_)
  rintro e a' w' ⟨g', τ', σ', hE, hI', hr', hn', hq⟩
  cases e with
  | normal => exact wpIn_mono (hq g' w' a' hI' hr' hn' rfl) fun e a2 w2 hl => LiftX.trans hE hl
  | exit id => exact ⟨g', τ', σ', hE, hI', hr', hn', hq⟩
  | goto l => exact ⟨g', τ', σ', hE, hI', hr', hn', hq⟩
  | ret => exact ⟨g', τ', σ', hE, hI', hr', hn', hq⟩
  | panic ch => exact ⟨g', τ', σ', hE, hI', hr', hn', hq⟩
  | outgrown => exact ⟨g', τ', σ', hE, hI', hr', hn', hq⟩
theorem wpX_seq_k {n : Nat} {x y : Code} {Q : Exit → List Deferred → Env → AST → Prop} {ds : List Deferred} {τ : Env} (hm : P.follows .mixedOrders = true) (hd : dstOk n x = true)
    (h : ∀ KR : Env → AST → Prop, (∀ τ σ, wpX P n y Q ds τ σ → KR τ σ) → awp P x (thenQ KR fun _ _ _ => False) τ σ) : wpX P n (.seq x y) Q ds τ σ := by
  refine wpX_seq fun g w a hI hr hn hds => ?_
  refine wpIn_mono (awp_sound (r0 := none) hm x hd (h _ fun _ _ h => h) hI hr hn) ?_
  rintro e a' w' ⟨g', τ', σ', hE, hI', hr', hn', hds', hq⟩
  cases e with
  | normal => exact ⟨g', τ', σ', hE, hI', hr', hn', by rw [hds', hds]; exact hq⟩
  | exit id => exact hq.elim
  | goto l => exact hq.elim
  | ret => exact hq.elim
  | panic ch => exact hq.elim
  | outgrown => exact hq.elim
theorem wpX_block {n id : Nat} {c : Code} {Q : Exit → List Deferred → Env → AST → Prop} {ds : List Deferred} {τ : Env} (h : wpX P n c (fun e ds τ σ => blockQ id (fun e τ σ => Q e ds τ σ) e τ σ) ds τ σ) : wpX P n (.block id c) Q ds τ σ := by
  intro g w a hI hr hn hds
  refine wpIn_block (wpIn_mono (h g w a hI hr hn hds) ?_)
  rintro e a' w' ⟨g', τ', σ', hE, hI', hr', hn', hq⟩
  cases e with
  | exit id' =>
    simp only [Exit.inBlock, blockQ] at hq ⊢
    split
    · rename_i e; rw [if_pos e] at hq; exact ⟨g', τ', σ', hE, hI', hr', hn', hq⟩
    · rename_i e; rw [if_neg e] at hq; exact ⟨g', τ', σ', hE, hI', hr', hn', hq⟩
  | normal => exact ⟨g', τ', σ', hE, hI', hr', hn', hq⟩
  | goto l => exact ⟨g', τ', σ', hE, hI', hr', hn', hq⟩
  | ret => exact ⟨g', τ', σ', hE, hI', hr', hn', hq⟩
  | panic ch => exact ⟨g', τ', σ', hE, hI', hr', hn', hq⟩
  | outgrown => exact ⟨g', τ', σ', hE, hI', hr', hn', hq⟩
theorem wpX_range {n gf : Nat} {fo : Operand} {cap vs : List AV} {ps : Array Tmp} {assign body : Code} {Q : Exit → List Deferred → Env → AST → Prop} {ds : List Deferred} {τ : Env}
    (hf : ev τ fo = .fn (.func gf) [] cap) (hvs : ∀ (i : Nat) v, vs[i]? = some v → v = .undef ∨ (v = τ i ∧ v.known = true)) (hlen : vs.length ≤ n)
    (h : ∀ (fn : FuncId) (l D : Nat) (tm : Array Value), tm.size = n → TCalls P gf (.fn (.yield l) [] [] :: cap) ((σ.push (.pin D (.deferred (some [])) [] [])).push (.pin l (rec fn tm ps assign body D .ready none) vs tm.toList)) fun v σ' =>
      ∃ st pe, st ≠ .busy ∧ σ'.objs[σ.objs.length + 1]? = some (.pin l (rec fn tm ps assign body D st pe) vs tm.toList) ∧
        match pe with
        | none => Q .normal (⟨.collected D, #[]⟩ :: ds) τ (σ'.set (σ.objs.length + 1) (.pin l (rec fn tm ps assign body D .exhausted pe) vs tm.toList))
        | some c => wpX P n c Q (⟨.collected D, #[]⟩ :: ds) τ (σ'.set (σ.objs.length + 1) (.pin l (rec fn tm ps assign body D .exhausted pe) vs tm.toList))) :
    wpX P n (.rangeFunc fo ps assign body) Q ds τ σ := by
  intro g w a hI hr hn hds
  refine wpIn_rangeFunc ?_
  intro fn _
  have hx := ev_rel (a := a) hr fo
  rw [hf] at hx
  have hfv := (relV_scalar hx rfl rfl).1
  simp only [relC, List.cons.injEq, and_true] at hfv
  obtain ⟨p, q, h1, h2, h3⟩ := hfv
  simp only [relVs] at h2
  obtain rfl : p = #[] := by cases p; simp_all
  obtain ⟨g1, hE1, hI1⟩ := inv_pushPin (o := .deferred (some [])) (vs := []) (xs := []) hI (fun i v x h => by simp at h)
  obtain ⟨g2, hE2, hI2⟩ := inv_pushPin (o := rec fn a.tmps ps assign body w.heap.size .ready none) (vs := vs) (xs := a.tmps.toList) hI1 (fun i v x hv hx => by
    rcases hvs i v hv with rfl | ⟨rfl, hk⟩
    · exact .inl rfl
    · have := hr i
      have hi : i < a.tmps.size := by have := (List.getElem?_eq_some_iff.1 hx).1; simpa using this
      have hxe : a.tmps.getD i Go.undef = x := by
        simp only [Array.getElem?_toList, Array.getElem?_eq_getElem hi, Option.some.injEq] at hx
        simp [Array.getD, hi, hx]
      rw [hxe] at this
      exact .inr (relV_known (relV_mono hE1 this) hk))
  have hEE := hE1.trans hE2
  rw [World.size_alloc] at hI2
  obtain ⟨hok, hT⟩ := h fn (w.heap.size + 1) w.heap.size a.tmps hn
  have hAA : relA g2 ((w.alloc (.deferred (some []))).alloc (rec fn a.tmps ps assign body w.heap.size .ready none)) (.fn (.yield (w.heap.size + 1)) [] [] :: cap) (#[Value.func (Fn.yield (w.heap.size + 1)) #[] #[]] ++ q).toList := by
    have := relA_append (g := g2) (w := (w.alloc (.deferred (some []))).alloc (rec fn a.tmps ps assign body w.heap.size .ready none)) (a := [AV.fn (Fn.yield (w.heap.size + 1)) [] []]) (x := [Value.func (Fn.yield (w.heap.size + 1)) #[] #[]]) (b := cap) (y := q.toList) ?_ (relA_of_relVs (relVs_mono hEE h3))
    · simpa using this
    · refine relA_of_relVs ?_
      simp only [relVs]
      exact ⟨_, _, rfl, by simp only [Value.cells, relC]; exact ⟨#[], #[], rfl, by simp [relVs], by simp [relVs]⟩, rfl, rfl⟩
  generalize hW : (w.alloc (.deferred (some []))).alloc (rec fn a.tmps ps assign body w.heap.size .ready none) = W2 at *
  have hen : (Instr.enterLoop fn a.tmps ps assign body none).run P w = .ok (w.heap.size + 1, [{ target := .collected w.heap.size, args := #[] }]) W2 := by rw [← hW]; exact run_enterLoop_outer _ _ _ _ _
  refine ⟨w.heap.size + 1, _, W2, { target := Target.fn (Fn.func gf) q, args := #[Value.func (Fn.yield (w.heap.size + 1)) #[] #[]] }, W2, gf, #[Value.func (Fn.yield (w.heap.size + 1)) #[] #[]] ++ q, W2, hen, ?_, fun _ _ => trivial, ?_, fun h => by simp at h, ?_⟩
  · simp only [resolve, h1]
    simp [go_sem, Deferred.ofValue]
  · simp [invoke, go_sem, callFunc_run hok]
  · refine (calls_in (hT g2 _ _ hI2 hAA)).mono ?_
    rintro e w3 ⟨x, g3, v, σ3, rfl, hE3, hI3, hr3, st, pe, hst, hs3, hq⟩
    obtain ⟨hl3, hE4, hI4⟩ := inv_pin (o' := rec fn a.tmps ps assign body w.heap.size .exhausted pe) hI3 hs3
    refine ⟨pe, _, run_endLoop hl3 hst, ?_⟩
    have hE5 := (hEE.trans hE3).trans hE4
    cases pe with
    | none => exact ⟨g3, τ, _, hE5, hI4, relE_mono hE5 hr, hn, by dsimp only; rw [hds]; exact hq⟩
    | some c => exact wpIn_mono (hq g3 _ _ hI4 (relE_mono hE5 hr) hn (by dsimp only; rw [hds]; rfl)) fun e a2 w2 hl => LiftX.trans hE5 hl

def endX (P : Program) (fn : Func) (K : AV → AST → Prop) : Exit → List Deferred → Env → AST → Prop := fun e ds τ σ =>
  (e = .normal ∨ e = .ret) ∧ ∃ D i vs xs, ds = [⟨.collected D, #[]⟩] ∧ σ.objs[i]? = some (.pin D (.deferred (some [])) vs xs) ∧
    resW P fn.results.toList τ (σ.set i (.pin D (.deferred none) vs xs)) fun v => K v (σ.set i (.pin D (.deferred none) vs xs))

theorem tcalls_ofX {f : FuncId} (fn : Func) {c : Code} {args : List AV} {K : AV → AST → Prop} (hok : FnOk P f) (hf : P.funcs[f]? = some fn) (hb : fn.body = some c) (hn : args.length ≤ fn.ntmps)
    (h : (∀ v ∈ args, lenOk v) → wpX P fn.ntmps c (endX P fn K) [] (env0 args) σ) : TCalls P f args σ K := by
  refine ⟨hok, fun g w xs hI hA => ?_⟩
  have hlen : ∀ v ∈ args, lenOk v := by
    intro v hv
    obtain ⟨i, hi⟩ := List.mem_iff_getElem?.1 hv
    have hlt : i < xs.toList.length := by rw [← hA.1]; exact (List.getElem?_eq_some_iff.1 hi).1
    exact lenOk_of (hA.2 i v _ hi (List.getElem?_eq_getElem hlt))
  have hsz : xs.size = args.length := by have := hA.1; simp at this; omega
  refine (callsIn_wide (n := 0)).1 (callsIn_of_wp_marks (F := FR none) hf hb trivial ?_ rfl)
  refine wpIn_mono (h hlen g w { tmps := xs ++ Array.replicate (fn.ntmps - xs.size) Go.undef, defers := [] } hI (env0_rel hA _) (by simp; omega) rfl) ?_
  rintro e a' w' ⟨g', τ', σ', hE, hI', hr', hn', he, D, i, vs, ys, hds, hi, hq⟩
  obtain ⟨hD, hE2, hI2⟩ := inv_pin (o' := .deferred none) hI' hi
  have key : LeavesInM (FR none) 0 P fn a'.tmps (fun e w' => ∃ x g' v σ', e = .returned x ∧ Ev g w g' w' ∧ Inv g' σ' w' ∧ relV g' w' v x ∧ K v σ') a'.defers .returning w' := by
    rw [hds]
    refine ⟨by simp, .inl ⟨_, _, rfl, run_takeDeferred hD, ?_⟩⟩
    obtain ⟨y, v, hy, hv, hk⟩ := resW_run hI2 (relE_mono hE2 hr') hq
    exact ⟨y, hy, y, g', v, _, rfl, hE.trans hE2, hI2, hv, hk⟩
  rcases he with rfl | rfl
  · exact key
  · exact key
end Go.Aff

namespace Go.Aff

variable {P : Program} {σ σ' : AST} {ops : Array Oper} {τ : Env} {KE : Env → AST → Prop}

def ptrO : AV → List Nat
  | .ptr (some (i, _)) => [i]
  | .arr i _ _ => [i]
  | _ => []
def reads (ρ : Operand → AV) : Op → List Nat
  | .load _ x => ptrO (ρ x)
  | .fieldAddr _ x _ => ptrO (ρ x)
  | .indexAddr _ x _ => ptrO (ρ x)
  | .convert _ _ x => ptrO (ρ x)
  | _ => []
def keeps (ks : List Nat) (σ σ' : AST) : Prop := ∀ k ∈ ks, σ'.objs[k]? = σ.objs[k]?

theorem opW_free {ρ : Operand → AV} {o : Oper} {p : AV → Prop} (he : effO P o = false) (hs : keeps (reads ρ o.op) σ σ') (h : opW P ρ o σ fun v _ => p v) : opW P ρ o σ' fun v _ => p v := by
  obtain ⟨dst, op, type, pos, after, guard⟩ := o
  cases op <;> simp only [effO] at he <;> simp only [opW] at h ⊢ <;> try exact h
  case convert s d x =>
    unfold convW at h ⊢
    split at h
    · exact h
    · rcases h with h | ⟨e, h1, h2, h3, h4⟩
      · exact .inl h
      · rw [h1] at he; simp at he
    · exact h
    · rename_i i p n ha
      rw [hs i (by simp [reads, ha, ptrO])]
      exact h
    · exact h
  case load t a =>
    unfold loadW at h ⊢
    split at h
    · rename_i i p ha
      rw [hs i (by simp [reads, ha, ptrO])]
      exact h
    · exact h
    · exact h.elim
  case fieldAddr t x i =>
    refine ⟨h.1, ?_⟩
    have h := h.2
    unfold fieldAddrW at h ⊢
    split at h
    · rename_i j p ha
      rw [hs j (by simp [reads, ha, ptrO])]
      exact h
    · exact h
    · exact h.elim
  case indexAddr t x i =>
    unfold indexAddrW at h ⊢
    split at h
    · split at h
      · exact h
      · rename_i j p ha
        rw [hs j (by simp [reads, ha, ptrO])]
        exact h
      · exact h
      · rename_i j p m ha
        rw [hs j (by simp [reads, ha, ptrO])]
        exact h
      · exact h.elim
    · exact h.elim
  case call c =>
    unfold callW at h ⊢
    split at h
    · rename_i hc; simp [hc] at he
    · exact h
    · rename_i hc; simp [hc] at he
    · exact h
    · exact h
    · rename_i hc; simp [hc] at he
    · rename_i hc; simp [hc] at he
    · rename_i hc; simp [hc] at he
    · rename_i hc; simp [hc] at he
    · exact h.elim
  all_goals (simp at he)

theorem step_same {o : Oper} {v : AV} (hl : ∀ t, lenOk (τ t)) (he : effO P o = false) (hs : keeps (reads (ev τ) o.op) σ σ') (h : stepW P ops o τ σ fun v' σ'' => v' = v ∧ σ'' = σ) :
    stepW P ops o τ σ' fun v' σ'' => v' = v ∧ σ'' = σ' := by
  have hlo : ∀ x, lenOk (ev τ x) := by
    intro x
    cases x with
    | tmp t => exact hl t
    | const c => simp only [ev]; exact lenOk_of (g := ⟨0, [], fun _ => none, []⟩) (w := default) (absV_rel _ _ c)
    | global _ => trivial
    | func f => trivial
  have key : opW P (ev τ) o σ (fun v' σ'' => v' = v ∧ σ'' = σ) → opW P (ev τ) o σ' (fun v' σ'' => v' = v ∧ σ'' = σ') := by
    intro h
    have h0 : opW P (ev τ) o σ (fun v' _ => v' = v) := opW_mono (fun _ _ h => h.1) h
    obtain ⟨u, hu, hk⟩ := op_det hlo he (opW_free he hs h0)
    subst hu
    exact hk _ ⟨rfl, rfl⟩
  unfold stepW at h ⊢
  split at h
  · exact key h
  · split at h
    · exact h.elim
    · split at h
      · exact ⟨fun e => key (h.1 e), fun e => ⟨(h.2 e).1, rfl⟩⟩
      · exact ⟨h.1, rfl⟩
      · exact h.elim

def seqE (P : Program) (ops : Array Oper) : List (Nat × Bool) → List Nat → Env → AST → (Env → AST → Prop) → Prop
  | [], ks, τ, σ, K => K τ σ
  | (i, true) :: r, ks, τ, σ, K => match gop ops i with
    | none => False
    | some o => stepW P ops o τ σ fun v σ' => keeps ks σ σ' ∧ seqE P ops r ks (τ.putO o.dst v) σ' K
  | (i, false) :: r, ks, τ, σ, K => match gop ops i with
    | none => False
    | some o => stepW P ops o τ σ fun v σ' => σ' = σ ∧ seqE P ops r (reads (ev τ) o.op ++ ks) (τ.putO o.dst v) σ' K

def flagsOk (P : Program) (ops : Array Oper) (l : List (Nat × Bool)) : Bool := l.all fun x => match ops[x.1]? with
  | none => false
  | some o => effO P o == x.2

def pastOkE (P : Program) (ops : Array Oper) (ks : List Nat) (past : List (Nat × Env × AV)) (σ : AST) : Prop :=
  ∀ x ∈ past, ∀ o, ops[x.1]? = some o → (∀ t, lenOk (x.2.1 t)) ∧ effO P o = false ∧ (∀ k ∈ reads (ev x.2.1) o.op, k ∈ ks) ∧ stepW P ops o x.2.1 σ fun v' σ'' => v' = x.2.2 ∧ σ'' = σ

theorem seqE_awpD : ∀ (l : List (Nat × Bool)) (ks : List Nat) (past : List (Nat × Env × AV)) (τ : Env) (σ : AST), flagsOk P ops l = true → pastOkE P ops ks past σ → (∀ t, lenOk (τ t)) → seqE P ops l ks τ σ KE → awpD P ops (l.map (·.1)) past τ σ KE
  | [], ks, past, τ, σ, hf, hp, hlen, h => h
  | (i, true) :: r, ks, past, τ, σ, hf, hp, hlen, h => by
    simp only [seqE] at h
    split at h
    · exact h.elim
    · rename_i o hk
      have hk : ops[i]? = some o := hk
      simp only [flagsOk, List.all_cons, hk, Bool.and_eq_true, beq_iff_eq] at hf
      simp only [List.map_cons, awpD, hk, hf.1, if_true]
      refine stepW_mono (fun v σ' hh => ?_) h
      have hp' : pastOkE P ops ks past σ' := fun x hx o ho => by
        obtain ⟨h1, h2, h3, h4⟩ := hp x hx o ho
        exact ⟨h1, h2, h3, step_same h1 h2 (fun k hk => hh.1 k (h3 k hk)) h4⟩
      exact ⟨fun x hx _ o ho => (hp' x hx o ho).2.2.2, fun hlv => seqE_awpD r ks past _ _ hf.2 hp' hlv hh.2⟩
  | (i, false) :: r, ks, past, τ, σ, hf, hp, hlen, h => by
    simp only [seqE] at h
    split at h
    · exact h.elim
    · rename_i o hk
      have hk : ops[i]? = some o := hk
      simp only [flagsOk, List.all_cons, hk, Bool.and_eq_true, beq_iff_eq] at hf
      simp only [List.map_cons, awpD, hk, hf.1, Bool.false_eq_true, if_false]
      obtain ⟨v, hv, hkk⟩ := stepW_det hlen hf.1 h
      refine hkk _ fun hlv => seqE_awpD r _ _ _ _ hf.2 ?_ hlv hv.2
      intro x hx o' ho'
      rcases List.mem_cons.1 hx with rfl | hx
      · dsimp only at ho' ⊢
        rw [hk] at ho'; cases ho'
        exact ⟨hlen, hf.1, fun k hk => List.mem_append_left _ hk, hkk _ ⟨rfl, rfl⟩⟩
      · obtain ⟨h1, h2, h3, h4⟩ := hp x hx o' ho'
        exact ⟨h1, h2, fun k hk => List.mem_append_right _ (h3 k hk), h4⟩

theorem awp_drawE {id : Nat} {ops : Array Oper} {Q : Exit → Env → AST → Prop} (ord : List (Nat × Bool)) (ho : (ordOk P ops (ord.map (·.1)) && flagsOk P ops ord) = true) (h : seqE P ops ord [] τ σ (Q .normal)) : awp P (.region id ops true) Q τ σ := by
  rw [Bool.and_eq_true] at ho
  exact awp_draw _ ho.1 fun hlen => seqE_awpD ord [] [] τ σ ho.2 (fun x hx => by simp at hx) hlen h

/-! ### As rules -/
def seqEt (P : Program) (ops : Array Oper) (o : Option Oper) (r : List (Nat × Bool)) (ks : List Nat) (τ : Env) (σ : AST) (K : Env → AST → Prop) : Prop := match o with
  | none => False
  | some o => stepW P ops o τ σ fun v σ' => keeps ks σ σ' ∧ seqE P ops r ks (τ.putO o.dst v) σ' K
def seqEf (P : Program) (ops : Array Oper) (o : Option Oper) (r : List (Nat × Bool)) (ks : List Nat) (τ : Env) (σ : AST) (K : Env → AST → Prop) : Prop := match o with
  | none => False
  | some o => stepW P ops o τ σ fun v σ' => σ' = σ ∧ seqE P ops r (reads (ev τ) o.op ++ ks) (τ.putO o.dst v) σ' K
variable {ks : List Nat}
theorem seqE_nil : seqE P ops [] ks τ σ KE = KE τ σ := nr rfl
theorem seqE_t {i : Nat} {r : List (Nat × Bool)} : seqE P ops ((i, true) :: r) ks τ σ KE = seqEt P ops (gop ops i) r ks τ σ KE := by simp only [seqE, seqEt]
theorem seqE_f {i : Nat} {r : List (Nat × Bool)} : seqE P ops ((i, false) :: r) ks τ σ KE = seqEf P ops (gop ops i) r ks τ σ KE := by simp only [seqE, seqEf]
theorem seqEt_some {o : Oper} {r : List (Nat × Bool)} : seqEt P ops (some o) r ks τ σ KE = stepW P ops o τ σ (@Lam ⟨fun v σ' => @Later ⟨keeps ks σ σ' ∧ seqE P ops r ks (τ.putO o.dst v) σ' KE⟩⟩) := nr rfl
theorem seqEf_some {o : Oper} {r : List (Nat × Bool)} : seqEf P ops (some o) r ks τ σ KE = stepW P ops o τ σ (@Lam ⟨fun v σ' => σ' = σ ∧ @Later ⟨seqE P ops r (reads (ev τ) o.op ++ ks) (τ.putO o.dst v) σ' KE⟩⟩) := nr rfl
theorem reads_load {ρ : Operand → AV} {t : TypeId} {x : Operand} : reads ρ (.load t x) = ptrO (ρ x) := rfl
theorem reads_fieldAddr {ρ : Operand → AV} {t : TypeId} {x : Operand} {i : Nat} : reads ρ (.fieldAddr t x i) = ptrO (ρ x) := rfl
theorem reads_indexAddr {ρ : Operand → AV} {t : TypeId} {x y : Operand} : reads ρ (.indexAddr t x y) = ptrO (ρ x) := rfl
theorem reads_move {ρ : Operand → AV} {x : Operand} : reads ρ (.move x) = [] := rfl
theorem reads_assign {ρ : Operand → AV} {x : Operand} : reads ρ (.assign x) = [] := rfl
theorem reads_index {ρ : Operand → AV} {t : TypeId} {x y : Operand} : reads ρ (.index t x y) = [] := rfl
theorem reads_convert {ρ : Operand → AV} {s d : TypeId} {x : Operand} : reads ρ (.convert s d x) = ptrO (ρ x) := rfl
theorem reads_binOp {ρ : Operand → AV} {op : BinOp} {t u : TypeId} {x y : Operand} : reads ρ (.binOp op t x y u) = [] := rfl
theorem reads_unOp {ρ : Operand → AV} {op : UnOp} {t : TypeId} {x : Operand} : reads ρ (.unOp op t x) = [] := rfl
theorem reads_extract {ρ : Operand → AV} {x : Operand} {i : Nat} : reads ρ (.extract x i) = [] := rfl
theorem reads_field {ρ : Operand → AV} {t : TypeId} {x : Operand} {i : Nat} : reads ρ (.field t x i) = [] := rfl
theorem reads_build {ρ : Operand → AV} {t : TypeId} {ps : Array (Nat × Operand)} : reads ρ (.build t ps) = [] := rfl
theorem reads_slice {ρ : Operand → AV} {t : TypeId} {x : Operand} {a b c : Option Operand} : reads ρ (.slice t x a b c) = [] := rfl
theorem reads_call {ρ : Operand → AV} {c : Call} : reads ρ (.call c) = [] := rfl
theorem ptrO_some {i : Nat} {p : List Nat} : ptrO (.ptr (some (i, p))) = [i] := rfl
theorem ptrO_eptr {v : AV} : ptrO (.eptr v) = [] := rfl
theorem ptrO_slice {tk : Tk} {xs : List AV} : ptrO (.slice tk xs) = [] := rfl
theorem keeps_nil : keeps [] σ σ' := fun _ h => by simp at h
theorem keeps_refl : keeps ks σ σ := fun _ _ => rfl
attribute [go_sem ↓] seqE_nil seqE_t seqE_f seqEt_some seqEf_some
attribute [go_sem] reads_load reads_fieldAddr reads_indexAddr reads_move reads_assign reads_index reads_convert reads_binOp reads_unOp reads_extract reads_field reads_build reads_slice reads_call ptrO_some ptrO_eptr ptrO_slice List.nil_append
end Go.Aff

namespace Go.Aff

variable {P : Program} {σ σ' : AST} {K : AV → AST → Prop} {KV : AV → Prop} {KS : AST → Prop}

def AST.app (σ : AST) (l : List AObj) : AST := ⟨σ.objs ++ l, σ.toks⟩
theorem push_app {o : AObj} : σ.push o = σ.app [o] := rfl
theorem app_app {a b : List AObj} : (σ.app a).app b = σ.app (a ++ b) := by simp [AST.app]
theorem length_app {l : List AObj} : (σ.app l).objs.length = σ.objs.length + l.length := by simp [AST.app]
theorem objs_app {l : List AObj} {k : Nat} : (σ.app l).objs[σ.objs.length + k]? = l[k]? := by
  simp only [AST.app]; rw [List.getElem?_append_right (by omega)]; congr 1; omega
theorem objs_app0 {l : List AObj} : (σ.app l).objs[σ.objs.length]? = l[0]? := objs_app (k := 0)
theorem cellAt_app {l : List AObj} {k : Nat} {p : List Nat} : cellAt (σ.app l) (σ.objs.length + k) p = (l[k]?).bind fun o => objCell o p := by simp only [cellAt, objs_app]
theorem cellAt_app0 {l : List AObj} {p : List Nat} : cellAt (σ.app l) σ.objs.length p = (l[0]?).bind fun o => objCell o p := cellAt_app (k := 0)
theorem set_app {l : List AObj} {k : Nat} {o : AObj} : (σ.app l).set (σ.objs.length + k) o = σ.app (l.set k o) := by
  simp only [AST.app, AST.set]; congr 1
  rw [List.set_append_right _ _ (by omega)]; congr 2; omega
theorem set_app0 {l : List AObj} {o : AObj} : (σ.app l).set σ.objs.length o = σ.app (l.set 0 o) := set_app (k := 0)
theorem Ext.app (σ : AST) (l : List AObj) : Ext σ (σ.app l) := ⟨l, [], by simp [AST.app]⟩

def storeC (P : Program) (t : TypeId) (o : Option AObj) (p : List Nat) (x : AV) (K : AV → Prop) : Prop := match o with
  | some (.cells v) => match v.at p with
    | some u => fits P t x ∧ x.shape = u.shape ∧ x.known = true ∧ setOk v p x ∧ K (v.setAt p x)
    | none => False
  | _ => False
def storeV (P : Program) (t : TypeId) (v : AV) (u : Option AV) (p : List Nat) (x : AV) (K : AV → Prop) : Prop := match u with
  | some u => fits P t x ∧ x.shape = u.shape ∧ x.known = true ∧ setOk v p x ∧ K (v.setAt p x)
  | none => False
theorem store_ptr {t : TypeId} {j : Nat} {p : List Nat} {x : AV} : storeW P σ t (.ptr (some (j, p))) x KS = storeC P t σ.objs[j]? p x (@LamA _ ⟨fun v' => KS (σ.set j (.cells v'))⟩) := by
  simp only [storeW, storeC, LamA]
  cases h : σ.objs[j]? with
  | none => rfl
  | some o => cases o <;> rfl
theorem storeC_cells {t : TypeId} {v x : AV} {p : List Nat} : storeC P t (some (.cells v)) p x KV = storeV P t v (v.at p) p x KV := nr rfl
theorem storeV_some {t : TypeId} {v u x : AV} {p : List Nat} : storeV P t v (some u) p x KV = ((fits P t x ∧ x.shape = u.shape ∧ x.known = true ∧ setOk v p x) ∧ @Later ⟨KV (v.setAt p x)⟩) := by
  simp [storeV, Later, and_assoc]
theorem setOk_nil {v x : AV} : setOk v [] x = True := by cases v <;> simp [setOk]
theorem setAt_nil {v x : AV} : v.setAt [] x = x := by cases v <;> simp [AV.setAt]
theorem shape_int {k : IntKind} {n : Int} : (AV.int k n).shape = .leaf := by simp [AV.shape]
theorem shape_str {s : List UInt8} : (AV.str s).shape = .leaf := by simp [AV.shape]
theorem shape_bool {b : Bool} : (AV.bool b).shape = .leaf := by simp [AV.shape]
theorem shape_slice {tk : Tk} {xs : List AV} : (AV.slice tk xs).shape = .leaf := by simp [AV.shape]
theorem shape_ptr {p : Option (Nat × List Nat)} : (AV.ptr p).shape = .leaf := by simp [AV.shape]
theorem shape_fn {f : Fn} {a b : List AV} : (AV.fn f a b).shape = .leaf := by simp [AV.shape]

theorem indexAddr_ptr {t e n : Nat} {j : Nat} {k : IntKind} {xs : List Int} {i : Nat} {x : Int} (hu : P.underlying t = some (.array n e)) (he : P.underlying e = some (.int k)) (hc : P.cellsOf e = 1) (hl : xs.length = n)
    (ho : σ.objs[j]? = some (.cells (.agg (xs.map (AV.int k))))) (hi : xs[i]? = some x) (hK : KV (.ptr (some (j, [i])))) {q : IntKind} : indexAddrW P σ t (.ptr (some (j, []))) (.int q i) KV := by
  have hin : i < n := by rw [← hl]; exact (List.getElem?_eq_some_iff.1 hi).1
  have hsz : ∀ l : List Int, AV.sizes (l.map (AV.int k)) = l.length := by
    intro l
    induction l with
    | nil => rfl
    | cons a r ih => simp only [List.map_cons, AV.sizes, AV.size, ih, List.length_cons]; omega
  have hpl : placeOf P t i = some (i * 1, e) := by
    unfold placeOf
    rw [hu]; simp only; rw [if_pos hin, hc]
  simp only [indexAddrW, ho]
  show nthW (xs.map (AV.int k)) (i : Int) _
  refine ⟨by omega, by simp; omega, fun z hz => ?_⟩
  simp only [Int.toNat_natCast, List.getElem?_map, hi, Option.map_some, Option.some.injEq] at hz
  subst hz
  refine ⟨⟨e, ?_, ?_⟩, ⟨e, by rw [List.length_map, hl]; exact hu⟩, ?_⟩
  · rw [Int.toNat_natCast, hpl, ← List.map_take, hsz, List.length_take]
    congr 2; omega
  · unfold fits
    refine ⟨by unfold aggT; rw [he]; rfl, by rw [hc]; simp [AV.size]⟩
  · simpa using hK
theorem cellAt_int {j i : Nat} {k : IntKind} {xs : List Int} {x : Int} (ho : σ.objs[j]? = some (.cells (.agg (xs.map (AV.int k))))) (hi : xs[i]? = some x) : cellAt σ j [i] = some (.int k x) := by
  simp [cellAt, ho, objCell, AV.at, hi]
theorem storeC_int {t i : Nat} {k : IntKind} {xs : List Int} {x y : Int} {o : Option AObj} (ho : o = some (.cells (.agg (xs.map (AV.int k))))) (hi : xs[i]? = some x) (hf : fits P t (.int k y)) (hK : KV (.agg ((xs.set i y).map (AV.int k)))) :
    storeC P t o [i] (.int k y) KV := by
  subst ho
  simp only [storeC, AV.at, List.getElem?_map, hi, Option.map_some, Option.bind_some]
  refine ⟨hf, by simp [AV.shape], rfl, ?_, ?_⟩
  · simp only [setOk, List.getElem?_map, hi, Option.map_some, Option.some.injEq]
    rintro v rfl; trivial
  · have : (AV.agg (xs.map (AV.int k))).setAt [i] (.int k y) = .agg ((xs.set i y).map (AV.int k)) := by
      simp only [AV.setAt, List.getElem?_map, hi, Option.map_some, List.map_set]
    rw [this]; exact hK

theorem slice_hi {t e c b h : Nat} (E : ElemT P t e c b) (hd : ∃ d, P.underlying e = some d) {tk : Tk} {xs : List AV} {q : IntKind} (hx : ∀ v ∈ xs, v.size = c) (hh : h ≤ xs.length) (hK : ∀ tk', KV (.slice tk' (xs.take h))) :
    sliceW P t (.slice tk xs) none (some (.int q (h : Nat))) none KV := by
  refine ⟨e, E.hu, by rw [E.hc]; exact hx, hd, ?_⟩
  simp only [bndW, Int.toNat_natCast, List.drop_zero]
  exact ⟨by omega, Nat.zero_le _, hh, hK _⟩
theorem slice_lo {t e c b h : Nat} (E : ElemT P t e c b) (hd : ∃ d, P.underlying e = some d) {tk : Tk} {xs : List AV} {q : IntKind} (hx : ∀ v ∈ xs, v.size = c) (hh : h ≤ xs.length) (hK : ∀ tk', KV (.slice tk' (xs.drop h))) :
    sliceW P t (.slice tk xs) (some (.int q (h : Nat))) none none KV := by
  refine ⟨e, E.hu, by rw [E.hc]; exact hx, hd, ?_⟩
  simp only [bndW, Int.toNat_natCast, List.take_length]
  exact ⟨by omega, hh, Nat.le_refl _, hK _⟩
theorem one_cell {t : Tmp} {ty : TypeId} {τ : Env} : oneRes P τ σ (.cell t ty) KV = loadW P σ ty (τ t) KV := nr rfl
attribute [go_sem ↓] one_cell
attribute [go_sem] store_ptr storeC_cells storeV_some setOk_nil setAt_nil shape_int shape_str shape_bool shape_slice shape_ptr shape_fn
end Go.Aff

namespace Go.Aff

variable {P : Program} {σ σ' : AST} {K : AV → AST → Prop} {KV : AV → Prop} {KS : AST → Prop}

theorem fits_agg {t n : Nat} (ha : aggT P t = some true) (hc : P.cellsOf t = n) {v : AV} : fits P t v = (v.isAgg = true ∧ v.size = n) := by
  unfold fits
  rw [ha, hc, eq_iff_iff]
  constructor
  · rintro ⟨h1, h2⟩; exact ⟨(Option.some.inj h1).symm, h2.symm⟩
  · rintro ⟨h1, h2⟩; exact ⟨by rw [h1], h2.symm⟩
theorem shape_agg {ps : List AV} : (AV.agg ps).shape = .node (AV.shapes ps) := by simp [AV.shape]
theorem shapes_nil : AV.shapes [] = [] := rfl
theorem shapes_cons {p : AV} {r : List AV} : AV.shapes (p :: r) = p.shape :: AV.shapes r := by simp [AV.shapes]
theorem shape_dig {d : Dig} : (AV.dig d).shape = .dig := by simp [AV.shape]
/-! ### Two owners -/
def apart (a b : Tk) : Prop := ∀ k, a = .own k → b ≠ .own k
theorem apart_full {b : Tk} : apart .full b := fun k h => by cases h
theorem apart.symm {a b : Tk} (h : apart a b) : apart b a := fun k h1 h2 => h k h2 h1
theorem canApp_apart {a b : Tk} {n m e f : Nat} (h : apart a b) (hc : canApp σ b m f) : canApp (growS σ a n e) b m f := by
  cases b with
  | none => exact hc.elim
  | lit => exact hc.elim
  | full => trivial
  | own k =>
    simp only [canApp] at hc ⊢
    cases a with
    | none => exact hc
    | lit => exact hc
    | full =>
      simp only [growS, AST.tok]
      rw [List.getElem?_append_left (List.getElem?_eq_some_iff.1 hc).1]; exact hc
    | own j =>
      have hne : j ≠ k := fun e => by subst e; exact h j rfl rfl
      simp only [growS, AST.setTok]
      rw [List.getElem?_set_ne hne]; exact hc
theorem apart_grow {a b : Tk} {m f : Nat} (h : apart a b) (hc : canApp σ b m f) : apart (growT σ a) b := by
  cases a with
  | full =>
    intro k hk
    cases hk
    intro e
    subst e
    have := (List.getElem?_eq_some_iff.1 hc).1
    omega
  | own j => exact h
  | none => exact h
  | lit => exact h
theorem canApp_app {tk : Tk} {n e : Nat} {l : List AObj} : canApp (σ.app l) tk n e = canApp σ tk n e := by cases tk <;> rfl
theorem canApp_set {tk : Tk} {n e i : Nat} {o : AObj} : canApp (σ.set i o) tk n e = canApp σ tk n e := by cases tk <;> rfl
theorem strips_leaf {α : Type} {f : α → AV} (h : ∀ x, (f x).strip = f x) : ∀ {l : List α}, AV.strips (l.map f) = l.map f
  | [] => by simp [AV.strips]
  | x :: r => by simp [AV.strips, h x, strips_leaf h (l := r)]
theorem noRefs_leaf {α : Type} {f : α → AV} (h : ∀ x, (f x).noRef = true) : ∀ {l : List α}, AV.noRefs (l.map f) = true
  | [] => rfl
  | x :: r => by simp [AV.noRefs, h x, noRefs_leaf h (l := r)]
theorem objs_ext {σ s : AST} {l : List AObj} (h : Ext (σ.app l) s) {k : Nat} (hk : k < l.length) : s.objs[σ.objs.length + k]? = l[k]? := by
  obtain ⟨O, T, rfl⟩ := h
  simp only [AST.app, List.append_assoc]
  rw [List.getElem?_append_right (by omega), show σ.objs.length + k - σ.objs.length = k by omega, List.getElem?_append_left hk]
theorem cell_ext {σ s : AST} {l : List AObj} (h : Ext (σ.app l) s) {k : Nat} {v : AV} (hk : l[k]? = some (.cells v)) (p : List Nat) : cellAt s (σ.objs.length + k) p = v.at p := by
  simp only [cellAt, objs_ext h (List.getElem?_eq_some_iff.1 hk).1, hk, Option.bind_some, objCell]
theorem cell_ext0 {σ s : AST} {l : List AObj} (h : Ext (σ.app l) s) {v : AV} (hk : l[0]? = some (.cells v)) (p : List Nat) : cellAt s σ.objs.length p = v.at p := cell_ext (k := 0) h hk p
attribute [go_sem] shape_agg shapes_nil shapes_cons shape_dig
end Go.Aff

namespace Go.Aff

variable {P : Program} {σ σ' : AST} {ops : Array Oper} {τ : Env} {KE : Env → AST → Prop}

def seqF (P : Program) (ops : Array Oper) : List (Nat × Nat) → List Nat → Env → AST → (Env → AST → Prop) → Prop
  | [], ks, τ, σ, K => K τ σ
  | (i, 1) :: r, ks, τ, σ, K => match gop ops i with
    | none => False
    | some o => stepW P ops o τ σ fun v σ' => keeps ks σ σ' ∧ seqF P ops r ks (τ.putO o.dst v) σ' K
  | (i, 0) :: r, ks, τ, σ, K => match gop ops i with
    | none => False
    | some o => stepW P ops o τ σ fun v σ' => σ' = σ ∧ seqF P ops r (reads (ev τ) o.op ++ ks) (τ.putO o.dst v) σ' K
  | (i, _) :: r, ks, τ, σ, K => match gop ops i with
    | none => False
    | some o => stepW P ops o τ σ fun v σ' => σ' = σ ∧ seqF P ops r ks (τ.putO o.dst v) σ' K

def seqF0 (P : Program) (ops : Array Oper) (o : Option Oper) (r : List (Nat × Nat)) (ks : List Nat) (τ : Env) (σ : AST) (K : Env → AST → Prop) : Prop := match o with
  | none => False
  | some o => stepW P ops o τ σ fun v σ' => σ' = σ ∧ seqF P ops r (reads (ev τ) o.op ++ ks) (τ.putO o.dst v) σ' K
def seqF1 (P : Program) (ops : Array Oper) (o : Option Oper) (r : List (Nat × Nat)) (ks : List Nat) (τ : Env) (σ : AST) (K : Env → AST → Prop) : Prop := match o with
  | none => False
  | some o => stepW P ops o τ σ fun v σ' => keeps ks σ σ' ∧ seqF P ops r ks (τ.putO o.dst v) σ' K
def seqF2 (P : Program) (ops : Array Oper) (o : Option Oper) (r : List (Nat × Nat)) (ks : List Nat) (τ : Env) (σ : AST) (K : Env → AST → Prop) : Prop := match o with
  | none => False
  | some o => stepW P ops o τ σ fun v σ' => σ' = σ ∧ seqF P ops r ks (τ.putO o.dst v) σ' K
variable {ks : List Nat}
theorem seqF_nil : seqF P ops [] ks τ σ KE = KE τ σ := nr rfl
theorem seqF_1 {i : Nat} {r : List (Nat × Nat)} : seqF P ops ((i, 1) :: r) ks τ σ KE = seqF1 P ops (gop ops i) r ks τ σ KE := by simp only [seqF, seqF1]
theorem seqF_0 {i : Nat} {r : List (Nat × Nat)} : seqF P ops ((i, 0) :: r) ks τ σ KE = seqF0 P ops (gop ops i) r ks τ σ KE := by simp only [seqF, seqF0]
theorem seqF_2 {i : Nat} {r : List (Nat × Nat)} : seqF P ops ((i, 2) :: r) ks τ σ KE = seqF2 P ops (gop ops i) r ks τ σ KE := by simp only [seqF, seqF2]
theorem seqF1_some {o : Oper} {r : List (Nat × Nat)} : seqF1 P ops (some o) r ks τ σ KE = stepW P ops o τ σ (@Lam ⟨fun v σ' => @Later ⟨keeps ks σ σ' ∧ seqF P ops r ks (τ.putO o.dst v) σ' KE⟩⟩) := nr rfl
theorem seqF0_some {o : Oper} {r : List (Nat × Nat)} : seqF0 P ops (some o) r ks τ σ KE = stepW P ops o τ σ (@Lam ⟨fun v σ' => σ' = σ ∧ @Later ⟨seqF P ops r (reads (ev τ) o.op ++ ks) (τ.putO o.dst v) σ' KE⟩⟩) := nr rfl
theorem seqF2_some {o : Oper} {r : List (Nat × Nat)} : seqF2 P ops (some o) r ks τ σ KE = stepW P ops o τ σ (@Lam ⟨fun v σ' => σ' = σ ∧ @Later ⟨seqF P ops r ks (τ.putO o.dst v) σ' KE⟩⟩) := nr rfl
attribute [go_sem ↓] seqF_nil seqF_0 seqF_1 seqF_2 seqF0_some seqF1_some seqF2_some
theorem reads_buildSlice {ρ : Operand → AV} {t : TypeId} {n : Nat} {ps : Array (Nat × Operand)} : reads ρ (.buildSlice t n ps) = [] := rfl
attribute [go_sem] reads_buildSlice

theorem res_ct {a b : Nat} {ty : TypeId} {KV : AV → Prop} : resW P [.cell a ty, .tmp b] τ σ KV = loadW P σ ty (τ a) (@LamA _ ⟨fun x => (x.known = true ∧ (τ b).known = true) ∧ @Later ⟨KV (.tuple [x, τ b])⟩⟩) := by
  simp [resW, resList, oneRes, Later, LamA]
theorem res_tc {a b : Nat} {ty : TypeId} {KV : AV → Prop} : resW P [.tmp a, .cell b ty] τ σ KV = loadW P σ ty (τ b) (@LamA _ ⟨fun x => ((τ a).known = true ∧ x.known = true) ∧ @Later ⟨KV (.tuple [τ a, x])⟩⟩) := by
  simp [resW, resList, oneRes, Later, LamA]
attribute [go_sem ↓] res_ct res_tc
theorem growT_app {tk : Tk} {l : List AObj} : growT (σ.app l) tk = growT σ tk := by cases tk <;> rfl
/-! ### Stores into parts -/
def setAtO (ps : List AV) (i : Nat) (p : List Nat) (x : AV) : Option AV → AV
  | some v => .agg (ps.set i (v.setAt p x))
  | none => .agg ps
theorem setAt_agg {ps : List AV} {i : Nat} {p : List Nat} {x : AV} : (AV.agg ps).setAt (i :: p) x = setAtO ps i p x ps[i]? := by
  simp only [AV.setAt]; cases ps[i]? <;> rfl
theorem setAtO_some {ps : List AV} {i : Nat} {p : List Nat} {x v : AV} : setAtO ps i p x (some v) = .agg (ps.set i (v.setAt p x)) := rfl
def setOkO (p : List Nat) (x : AV) : Option AV → Prop
  | some v => setOk v p x
  | none => True
theorem setOk_agg {ps : List AV} {i : Nat} {p : List Nat} {x : AV} : setOk (.agg ps) (i :: p) x = setOkO p x ps[i]? := by
  simp only [setOk, eq_iff_iff]
  cases h : ps[i]? with
  | none => simp [setOkO]
  | some v => simp [setOkO]
theorem setOkO_some {p : List Nat} {x v : AV} : setOkO p x (some v) = setOk v p x := rfl
attribute [go_sem] setAt_agg setAtO_some setOk_agg setOkO_some
end Go.Aff

namespace Go.Aff

variable {τ : Env} {P : Program} {σ σ' : AST} {K : AV → AST → Prop} {KV : AV → Prop} {KS : AST → Prop}

def isPtrT (P : Program) (t : TypeId) : Bool := match P.underlying t with | some (.pointer _) => true | _ => false
theorem isPtrT_iff {t : TypeId} (h : isPtrT P t = true) : ∃ a, P.underlying t = some (.pointer a) := by
  unfold isPtrT at h; split at h
  · exact ⟨_, by assumption⟩
  · cases h
theorem bin_ptr_eql {t : TypeId} (hu : isPtrT P t = true) {p : Option (Nat × List Nat)} : binW P .eql t (.ptr p) (.ptr none) KV = KV (.bool p.isNone) := by
  obtain ⟨a, h⟩ := isPtrT_iff hu
  cases p <;> simp [binW, eqW, eqA, h]
theorem bin_ptr_neq {t : TypeId} (hu : isPtrT P t = true) {p : Option (Nat × List Nat)} : binW P .neq t (.ptr p) (.ptr none) KV = KV (.bool !p.isNone) := by
  obtain ⟨a, h⟩ := isPtrT_iff hu
  cases p <;> simp [binW, eqW, eqA, h]

def digT (P : Program) (t : TypeId) : Bool := !P.eqGuardType P.depth t && match P.underlying t with | some (.array 32 e) => isU8 P e && P.cellsOf e == 1 | _ => false
theorem digT_iff {t : TypeId} (h : digT P t = true) : P.eqGuardType P.depth t = false ∧ ∃ e, P.underlying t = some (.array 32 e) ∧ isU8 P e = true ∧ P.cellsOf e = 1 := by
  unfold digT at h
  simp only [Bool.and_eq_true, Bool.not_eq_true'] at h
  obtain ⟨h1, h2⟩ := h
  split at h2
  · rename_i e he
    simp only [Bool.and_eq_true, beq_iff_eq] at h2
    exact ⟨h1, e, he, h2.1, h2.2⟩
  · cases h2
theorem bin_dig_eql {t : TypeId} (hu : digT P t = true) {a b : Dig} : binW P .eql t (.dig a) (.dig b) KV = KV (.bool (a.l == b.l)) := by
  obtain ⟨h1, e, h2, h3, h4⟩ := digT_iff hu
  simp [binW, eqW, eqA, h1, h2, h3, h4]
theorem bin_dig_neq {t : TypeId} (hu : digT P t = true) {a b : Dig} : binW P .neq t (.dig a) (.dig b) KV = KV (.bool !(a.l == b.l)) := by
  obtain ⟨h1, e, h2, h3, h4⟩ := digT_iff hu
  simp [binW, eqW, eqA, h1, h2, h3, h4]
theorem nilCheck_some {q : Nat × List Nat} : nilCheckW (.ptr (some q)) KV = KV (.ptr (some q)) := nr rfl
theorem cellAt_known {j : Nat} {v : AV} (h : σ.objs[j]? = some (.cells v)) (p : List Nat) : cellAt σ j p = v.at p := by simp only [cellAt, h, Option.bind_some, objCell]
theorem objs_known_app {j : Nat} {o : AObj} (h : σ.objs[j]? = some o) (d : List AObj) : (σ.app d).objs[j]? = some o := by
  have hj : j < σ.objs.length := (List.getElem?_eq_some_iff.1 h).1
  simp only [AST.app, List.getElem?_append_left hj, h]
theorem keeps_none : keeps [] σ σ' = True := by simp only [eq_iff_iff, iff_true]; exact keeps_nil
theorem reads_nilCheck {ρ : Operand → AV} {x : Operand} : reads ρ (.nilCheck x) = [] := rfl
attribute [go_sem] reads_nilCheck keeps_none nilCheck_some isPtrT bin_ptr_eql bin_ptr_neq Option.isNone_some Option.isNone_none

theorem sizes_all {c : Nat} : ∀ {l : List AV}, (∀ v ∈ l, v.size = c) → AV.sizes l = l.length * c
  | [], _ => by simp [AV.sizes]
  | v :: r, h => by
    have h1 := h v (by simp)
    have h2 := sizes_all (l := r) fun x hx => h x (by simp [hx])
    simp only [AV.sizes, h1, h2, List.length_cons, Nat.succ_mul]; omega

theorem indexAddr_arr {t e n c : Nat} {j : Nat} {p : List Nat} {xs : List AV} {i : Nat} {x : AV} {q : IntKind} (hu : P.underlying t = some (.array n e)) (hc : P.cellsOf e = c) (hl : xs.length = n) (hs : ∀ v ∈ xs, v.size = c)
    (ho : cellAt σ j p = some (.agg xs)) (hi : xs[i]? = some x) (hf : fits P e x) (hK : KV (.ptr (some (j, p ++ [i])))) : indexAddrW P σ t (.ptr (some (j, p))) (.int q i) KV := by
  have hin : i < n := by rw [← hl]; exact (List.getElem?_eq_some_iff.1 hi).1
  have hpl : placeOf P t i = some (i * c, e) := by
    unfold placeOf
    rw [hu]; simp only; rw [if_pos hin, hc]
  have hsz : AV.sizes (xs.take i) = i * c := by
    rw [sizes_all (c := c) fun v hv => hs v (List.mem_of_mem_take hv), List.length_take, Nat.min_eq_left (by omega)]
  simp only [cellAt, Option.bind_eq_some_iff] at ho
  obtain ⟨o, h1, h2⟩ := ho
  cases o with
  | cells v =>
    simp only [objCell] at h2
    simp only [indexAddrW, h1, h2]
    refine ⟨by omega, by omega, fun z hz => ?_⟩
    simp only [Int.toNat_natCast] at hz ⊢
    rw [hi] at hz; cases hz
    refine ⟨⟨e, ?_, hf⟩, ⟨e, by rw [hl]; exact hu⟩, hK⟩
    rw [hpl, hsz]
  | _ => simp [objCell] at h2

theorem indexAddr_dig {t e : TypeId} {j : Nat} {p : List Nat} {d : Dig} {i : Nat} {q : IntKind} (hu : P.underlying t = some (.array 32 e)) (hf : fits P e (.int .u8 0)) (ho : cellAt σ j p = some (.dig d)) (hi : i < 32) (hK : KV (.ptr (some (j, p ++ [i])))) :
    indexAddrW P σ t (.ptr (some (j, p))) (.int q i) KV := by
  simp only [cellAt, Option.bind_eq_some_iff] at ho
  obtain ⟨o, h1, h2⟩ := ho
  cases o with
  | cells v =>
    simp only [objCell] at h2
    simp only [indexAddrW, h1, h2]
    refine ⟨by omega, by rw [d.h]; omega, fun z hz => ?_⟩
    exact ⟨⟨e, hu, hf⟩, by rw [Int.toNat_natCast]; exact hK⟩
  | _ => simp [objCell] at h2
theorem at_dig1 {d : Dig} {i : Nat} : (AV.dig d).at [i] = (d.l[i]?).map fun b => .int .u8 b.toNat := rfl
theorem mm_min {k : IntKind} {a b : Int} : mmW false [.int k a, .int k b] KV = KV (.int k (min a b)) := by simp [mmW]
attribute [go_sem] mm_min
theorem res_ttc {a b c : Nat} {ty : TypeId} : resW P [.tmp a, .tmp b, .cell c ty] τ σ KV = loadW P σ ty (τ c) (@LamA _ ⟨fun x => ((τ a).known = true ∧ (τ b).known = true ∧ x.known = true) ∧ @Later ⟨KV (.tuple [τ a, τ b, x])⟩⟩) := by
  simp [resW, resList, oneRes, Later, LamA]
attribute [go_sem ↓] res_ttc
end Go.Aff

namespace Go.Aff

variable {P : Program} {σ s : AST} {tk : Tk} {K : AV → AST → Prop}

structure Gr (σ s : AST) (tk : Tk) (n : Nat) (e : Nat := 1) : Prop where
  x : Ext σ s
  t : tkNew σ tk
  c : canApp s tk n e
theorem Gr.start {n e : Nat} : Gr σ σ .full n e := ⟨Ext.refl _, .inl rfl, trivial⟩
theorem Gr.start' {n e : Nat} (h : Ext σ s) : Gr σ s .full n e := ⟨h, .inl rfl, trivial⟩
theorem Gr.grow {n m e : Nat} (h : Gr σ s tk n e) : Gr σ (growS s tk m e) (growT s tk) m e := ⟨h.x.grow h.t, h.t.grow h.x, canApp_grow h.c⟩
theorem Gr.app {n e : Nat} {l : List AObj} (h : Gr σ s tk n e) : Gr σ (s.app l) tk n e := ⟨h.x.trans (Ext.app _ _), h.t, by rw [canApp_app]; exact h.c⟩
theorem Gr.set {σ s : AST} {tk : Tk} {n e i : Nat} {o : AObj} (h : Gr σ s tk n e) (hi : σ.objs.length ≤ i) : Gr σ (s.set i o) tk n e := ⟨h.x.set hi, h.t, by rw [canApp_set]; exact h.c⟩
theorem canApp_of {n m e : Nat} (h : canApp s tk n e) (hm : m = n) : canApp s tk m e := by subst hm; exact h
theorem growS_objs {n e : Nat} : (growS σ tk n e).objs = σ.objs := by cases tk <;> rfl

/-! ### Parts put in, by rewriting -/
variable {KV : AV → Prop}
def fillE (P : Program) (t : TypeId) (ps : List AV) (u : Option AV) (i : Nat) (x : AV) (r : List (Nat × AV)) (K : AV → Prop) : Prop := match u with
  | some u => partIs P t ps i x ∧ u.shape = x.shape ∧ x.known = true ∧ fillW P t r (.agg (ps.set i x)) K
  | none => False
theorem fill_agg {t : TypeId} {i : Nat} {x : AV} {r : List (Nat × AV)} {ps : List AV} : fillW P t ((i, x) :: r) (.agg ps) KV = fillE P t ps ps[i]? i x r KV := by
  rw [fillW.eq_2]
  cases h : ps[i]? with
  | none => simp [fillE]
  | some u => simp [fillE]
theorem fillE_some {t : TypeId} {i : Nat} {x u : AV} {r : List (Nat × AV)} {ps : List AV} : fillE P t ps (some u) i x r KV = ((partIs P t ps i x ∧ u.shape = x.shape ∧ x.known = true) ∧ @Later ⟨fillW P t r (.agg (ps.set i x)) KV⟩) := by
  simp [fillE, Later, and_assoc]
theorem fill_nil' {t : TypeId} {v : AV} : fillW P t [] v KV = KV v := by cases v <;> rfl
attribute [go_sem] fill_agg fillE_some fill_nil'
end Go.Aff

