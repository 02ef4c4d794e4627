import Derived.Test.YtipnjeciaagabaaG15
import Derived.KernelRfl
import Derived.Laws.BitsLemmas
import Derived.Laws.Bits64
import Derived.Test.YtipnjeciaagabaaProg

set_option linter.unusedSimpArgs false
set_option linter.unusedVariables false

/- What is left behind and reached by nobody is forgotten; appending, as two functions. -/
namespace Go.Aff
set_option linter.unusedVariables false
set_option linter.unusedSimpArgs false

variable {P : Program} {σ σ' : AST} {K : AV → AST → Prop} {KV : AV → Prop} {g g' : G} {w w' : World}

mutual
/-- No word on who may append any more. -/
def AV.strip : AV → AV
  | .slice .full [] => .slice .full []
  | .slice _ xs => .slice .none (AV.strips xs)
  | .eptr v => .eptr v.strip
  | .agg ps => .agg (AV.strips ps)
  | .tuple vs => .tuple (AV.strips vs)
  | .iface t v => .iface t v.strip
  | .fn f a b => .fn f (AV.strips a) (AV.strips b)
  | v => v
def AV.strips : List AV → List AV
  | [] => []
  | v :: r => v.strip :: AV.strips r
end

mutual
/-- It reaches no object. -/
def AV.noRef : AV → Bool
  | .ptr (some _) => false
  | .mp (some _) => false
  | .arr _ _ _ => false
  | .slice _ xs => AV.noRefs xs
  | .eptr v => v.noRef
  | .agg ps => AV.noRefs ps
  | .tuple vs => AV.noRefs vs
  | .iface _ v => v.noRef
  | .fn _ a b => AV.noRefs a && AV.noRefs b
  | _ => true
def AV.noRefs : List AV → Bool
  | [] => true
  | v :: r => v.noRef && AV.noRefs r
end

theorem strips_length : ∀ (l : List AV), (AV.strips l).length = l.length
  | [] => rfl
  | v :: r => by simp [AV.strips, strips_length r]

theorem strip_isAgg (v : AV) : v.strip.isAgg = v.isAgg := by
  unfold AV.strip; split <;> simp_all [AV.isAgg]

/-- The ghost's head. -/
def G.cut (g : G) (n m : Nat) : G := { g with objs := g.objs.take n, toks := g.toks.take m }

theorem cut_below {n m b k : Nat} : (g.cut n m).below b k = g.below b k := rfl

mutual
theorem relC_strip {n m : Nat} : ∀ {v : AV} {cs : List Value}, v.noRef = true → relC g w v cs → relC (g.cut n m) w v.strip cs
  | .undef, cs, hn, h | .bool _, cs, hn, h | .int _ _, cs, hn, h | .str _, cs, hn, h | .nilFn, cs, hn, h | .lit _, cs, hn, h | .nilIface, cs, hn, h | .ptr none, cs, hn, h | .mp none, cs, hn, h | .dig _, cs, hn, h => by
    simp only [AV.strip, relC] at h ⊢; exact h
  | .ptr (some _), cs, hn, h | .mp (some _), cs, hn, h | .arr _ _ _, cs, hn, h => by simp [AV.noRef] at hn
  | .slice tk xs, cs, hn, h => by
    simp only [AV.noRef] at hn
    simp only [relC] at h
    obtain ⟨ad, a, c, es, css, rfl, had, hes, h1, h2, h3, h4, h5⟩ := h
    have key : relC (g.cut n m) w (.slice .none (AV.strips xs)) [.slice ad xs.length c] := by
      simp only [relC]
      exact ⟨ad, a, c, es, css, by rw [strips_length], had, relEs_strip hn hes, by rw [strips_length]; exact h1, h2, h3, h4, trivial⟩
    unfold AV.strip
    split
    · rename_i h; cases h
      simp only [relC]
      exact ⟨ad, a, c, es, css, rfl, had, by simpa [relEs] using hes, h1, h2, h3, h4, h5⟩
    · rename_i h; cases h; exact key
    all_goals simp_all
  | .eptr v, cs, hn, h => by
    simp only [AV.noRef] at hn
    simp only [AV.strip, relC] at h ⊢
    obtain ⟨b, o, cv, h1, h2, h3, h4⟩ := h
    exact ⟨b, o, cv, h1, relC_strip hn h2, h3, h4⟩
  | .agg ps, cs, hn, h => by
    simp only [AV.noRef] at hn
    simp only [AV.strip, relC] at h ⊢
    exact relPs_strip hn h
  | .iface t v, cs, hn, h => by
    simp only [AV.noRef] at hn
    simp only [AV.strip, relC] at h ⊢
    obtain ⟨x, h1, h2, h3⟩ := h
    exact ⟨x, h1, relC_strip hn h2, by rw [strip_isAgg]; exact h3⟩
  | .fn f a b, cs, hn, h => by
    simp only [AV.noRef, Bool.and_eq_true] at hn
    simp only [AV.strip, relC] at h ⊢
    obtain ⟨x, y, h1, h2, h3⟩ := h
    exact ⟨x, y, h1, relVs_strip hn.1 h2, relVs_strip hn.2 h3⟩
  | .tuple _, cs, hn, h => by simp [relC] at h
theorem relPs_strip {n m : Nat} : ∀ {ps : List AV} {cs : List Value}, AV.noRefs ps = true → relPs g w ps cs → relPs (g.cut n m) w (AV.strips ps) cs
  | [], cs, hn, h => by simp only [AV.strips, relPs] at h ⊢; exact h
  | p :: ps, cs, hn, h => by
    simp only [AV.noRefs, Bool.and_eq_true] at hn
    simp only [AV.strips, relPs] at h ⊢
    obtain ⟨c1, c2, h1, h2, h3⟩ := h
    exact ⟨c1, c2, h1, relC_strip hn.1 h2, relPs_strip hn.2 h3⟩
theorem relEs_strip {n m es : Nat} : ∀ {ps : List AV} {cs : List Value}, AV.noRefs ps = true → relEs g w es ps cs → relEs (g.cut n m) w es (AV.strips ps) cs
  | [], cs, hn, h => by simp only [AV.strips, relEs] at h ⊢; exact h
  | p :: ps, cs, hn, h => by
    simp only [AV.noRefs, Bool.and_eq_true] at hn
    simp only [AV.strips, relEs] at h ⊢
    obtain ⟨c1, c2, h1, h0, h2, h3⟩ := h
    exact ⟨c1, c2, h1, h0, relC_strip hn.1 h2, relEs_strip hn.2 h3⟩
theorem relVs_strip {n m : Nat} : ∀ {vs : List AV} {l : List Value}, AV.noRefs vs = true → relVs g w vs l → relVs (g.cut n m) w (AV.strips vs) l
  | [], l, hn, h => by simp only [AV.strips, relVs] at h ⊢; exact h
  | v :: vs, l, hn, h => by
    simp only [AV.noRefs, Bool.and_eq_true] at hn
    simp only [AV.strips, relVs] at h ⊢
    obtain ⟨x, r, h1, h2, h3, h4⟩ := h
    exact ⟨x, r, h1, relC_strip hn.1 h2, by rw [strip_isAgg]; exact h3, relVs_strip hn.2 h4⟩
end

theorem relV_strip {n m : Nat} {v : AV} {x : Value} (hn : v.noRef = true) (h : relV g w v x) : relV (g.cut n m) w v.strip x := by
  rcases h with rfl | ⟨vs, a, rfl, rfl, h⟩ | ⟨h1, h2⟩
  · exact .inl rfl
  · simp only [AV.noRef] at hn
    refine .inr (.inl ⟨AV.strips vs, a, by simp [AV.strip], rfl, relVs_strip hn h⟩)
  · exact .inr (.inr ⟨relC_strip hn h1, by rw [strip_isAgg]; exact h2⟩)

mutual
/-- It reaches the first n objects and m owners alone. -/
def AV.small (n m : Nat) : AV → Prop
  | .ptr (some q) => q.1 < n
  | .mp (some i) => i < n
  | .arr i _ _ => i < n
  | .slice tk xs => (∀ t, tk = .own t → t < m) ∧ AV.smalls n m xs
  | .eptr v => v.small n m
  | .agg ps => AV.smalls n m ps
  | .iface _ v => v.small n m
  | .fn _ a b => AV.smalls n m a ∧ AV.smalls n m b
  | _ => True
def AV.smalls (n m : Nat) : List AV → Prop
  | [] => True
  | v :: r => v.small n m ∧ AV.smalls n m r
end

mutual
theorem relC_small : ∀ {v : AV} {cs : List Value}, relC g w v cs → v.small g.objs.length g.toks.length
  | .undef, cs, h | .bool _, cs, h | .int _ _, cs, h | .str _, cs, h | .nilFn, cs, h | .lit _, cs, h | .nilIface, cs, h | .ptr none, cs, h | .mp none, cs, h | .dig _, cs, h | .tuple _, cs, h => by simp only [AV.small]
  | .ptr (some (i, p)), cs, h => by
    simp only [relC] at h; obtain ⟨b, sh, o, h1, _⟩ := h
    simp only [AV.small]; exact (List.getElem?_eq_some_iff.1 h1).1
  | .mp (some i), cs, h => by
    simp only [relC] at h; obtain ⟨b, sh, h1, _⟩ := h
    simp only [AV.small]; exact (List.getElem?_eq_some_iff.1 h1).1
  | .arr i p n, cs, h => by
    simp only [relC] at h; obtain ⟨b, sh, o, c, h1, _⟩ := h
    simp only [AV.small]; exact (List.getElem?_eq_some_iff.1 h1).1
  | .slice tk xs, cs, h => by
    simp only [relC] at h
    obtain ⟨ad, a, c, es, css, rfl, had, hes, h1, h2, h3, h4, h5⟩ := h
    simp only [AV.small]
    refine ⟨fun t ht => ?_, relEs_small hes⟩
    subst ht; obtain ⟨e, he, _⟩ := h5; exact (List.getElem?_eq_some_iff.1 he).1
  | .eptr v, cs, h => by
    simp only [relC] at h; obtain ⟨b, o, cv, h1, h2, h3, h4⟩ := h
    simp only [AV.small]; exact relC_small h2
  | .agg ps, cs, h => by simp only [relC] at h; simp only [AV.small]; exact relPs_small h
  | .iface t v, cs, h => by simp only [relC] at h; obtain ⟨x, h1, h2, h3⟩ := h; simp only [AV.small]; exact relC_small h2
  | .fn f a b, cs, h => by simp only [relC] at h; obtain ⟨x, y, h1, h2, h3⟩ := h; simp only [AV.small]; exact ⟨relVs_small h2, relVs_small h3⟩
theorem relPs_small : ∀ {ps : List AV} {cs : List Value}, relPs g w ps cs → AV.smalls g.objs.length g.toks.length ps
  | [], cs, h => by simp only [AV.smalls]
  | p :: ps, cs, h => by simp only [relPs] at h; obtain ⟨c1, c2, h1, h2, h3⟩ := h; simp only [AV.smalls]; exact ⟨relC_small h2, relPs_small h3⟩
theorem relEs_small {es : Nat} : ∀ {ps : List AV} {cs : List Value}, relEs g w es ps cs → AV.smalls g.objs.length g.toks.length ps
  | [], cs, h => by simp only [AV.smalls]
  | p :: ps, cs, h => by simp only [relEs] at h; obtain ⟨c1, c2, h1, h0, h2, h3⟩ := h; simp only [AV.smalls]; exact ⟨relC_small h2, relEs_small h3⟩
theorem relVs_small : ∀ {vs : List AV} {l : List Value}, relVs g w vs l → AV.smalls g.objs.length g.toks.length vs
  | [], l, h => by simp only [AV.smalls]
  | v :: vs, l, h => by simp only [relVs] at h; obtain ⟨x, r, h1, h2, h3, h4⟩ := h; simp only [AV.smalls]; exact ⟨relC_small h2, relVs_small h4⟩
end

mutual
theorem relC_cut {n m : Nat} : ∀ {v : AV} {cs : List Value}, v.small n m → relC g w v cs → relC (g.cut n m) w v cs
  | .undef, cs, hn, h | .bool _, cs, hn, h | .int _ _, cs, hn, h | .str _, cs, hn, h | .nilFn, cs, hn, h | .lit _, cs, hn, h | .nilIface, cs, hn, h | .ptr none, cs, hn, h | .mp none, cs, hn, h | .dig _, cs, hn, h => by
    simp only [relC] at h ⊢; exact h
  | .ptr (some (i, p)), cs, hn, h => by
    simp only [AV.small] at hn
    simp only [relC] at h ⊢; obtain ⟨b, sh, o, h1, h2⟩ := h
    exact ⟨b, sh, o, by simp only [G.cut, List.getElem?_take]; rw [if_pos hn]; exact h1, h2⟩
  | .mp (some i), cs, hn, h => by
    simp only [AV.small] at hn
    simp only [relC] at h ⊢; obtain ⟨b, sh, h1, h2⟩ := h
    exact ⟨b, sh, by simp only [G.cut, List.getElem?_take]; rw [if_pos hn]; exact h1, h2⟩
  | .arr i p k, cs, hn, h => by
    simp only [AV.small] at hn
    simp only [relC] at h ⊢; obtain ⟨b, sh, o, c, h1, h2⟩ := h
    exact ⟨b, sh, o, c, by simp only [G.cut, List.getElem?_take]; rw [if_pos hn]; exact h1, h2⟩
  | .slice tk xs, cs, hn, h => by
    simp only [AV.small] at hn
    simp only [relC] at h ⊢
    obtain ⟨ad, a, c, es, css, rfl, had, hes, h1, h2, h3, h4, h5⟩ := h
    refine ⟨ad, a, c, es, css, rfl, had, relEs_cut hn.2 hes, h1, h2, h3, h4, ?_⟩
    cases tk with
    | none => trivial
    | full => exact h5
    | lit => exact h5
    | own t =>
      obtain ⟨e, he, h6⟩ := h5
      exact ⟨e, by simp only [G.cut, List.getElem?_take]; rw [if_pos (hn.1 t rfl)]; exact he, h6⟩
  | .eptr v, cs, hn, h => by
    simp only [AV.small] at hn
    simp only [relC] at h ⊢
    obtain ⟨b, o, cv, h1, h2, h3, h4⟩ := h
    exact ⟨b, o, cv, h1, relC_cut hn h2, h3, h4⟩
  | .agg ps, cs, hn, h => by
    simp only [AV.small] at hn
    simp only [relC] at h ⊢
    exact relPs_cut hn h
  | .iface t v, cs, hn, h => by
    simp only [AV.small] at hn
    simp only [relC] at h ⊢
    obtain ⟨x, h1, h2, h3⟩ := h
    exact ⟨x, h1, relC_cut hn h2, h3⟩
  | .fn f a b, cs, hn, h => by
    simp only [AV.small] at hn
    simp only [relC] at h ⊢
    obtain ⟨x, y, h1, h2, h3⟩ := h
    exact ⟨x, y, h1, relVs_cut hn.1 h2, relVs_cut hn.2 h3⟩
  | .tuple _, cs, hn, h => by simp [relC] at h
theorem relPs_cut {n m : Nat} : ∀ {ps : List AV} {cs : List Value}, AV.smalls n m ps → relPs g w ps cs → relPs (g.cut n m) w ps cs
  | [], cs, hn, h => by simp only [relPs] at h ⊢; exact h
  | p :: ps, cs, hn, h => by
    simp only [AV.smalls] at hn
    simp only [relPs] at h ⊢
    obtain ⟨c1, c2, h1, h2, h3⟩ := h
    exact ⟨c1, c2, h1, relC_cut hn.1 h2, relPs_cut hn.2 h3⟩
theorem relEs_cut {n m es : Nat} : ∀ {ps : List AV} {cs : List Value}, AV.smalls n m ps → relEs g w es ps cs → relEs (g.cut n m) w es ps cs
  | [], cs, hn, h => by simp only [relEs] at h ⊢; exact h
  | p :: ps, cs, hn, h => by
    simp only [AV.smalls] at hn
    simp only [relEs] at h ⊢
    obtain ⟨c1, c2, h1, h0, h2, h3⟩ := h
    exact ⟨c1, c2, h1, h0, relC_cut hn.1 h2, relEs_cut hn.2 h3⟩
theorem relVs_cut {n m : Nat} : ∀ {vs : List AV} {l : List Value}, AV.smalls n m vs → relVs g w vs l → relVs (g.cut n m) w vs l
  | [], l, hn, h => by simp only [relVs] at h ⊢; exact h
  | v :: vs, l, hn, h => by
    simp only [AV.smalls] at hn
    simp only [relVs] at h ⊢
    obtain ⟨x, r, h1, h2, h3, h4⟩ := h
    exact ⟨x, r, h1, relC_cut hn.1 h2, h3, relVs_cut hn.2 h4⟩
end

/-- Something was laid behind; nothing else has turned. -/
def Ext (σ σ' : AST) : Prop := ∃ O T, σ' = ⟨σ.objs ++ O, σ.toks ++ T⟩

theorem Ext.refl (σ : AST) : Ext σ σ := ⟨[], [], by simp⟩
theorem Ext.trans {a b c : AST} (h : Ext a b) (k : Ext b c) : Ext a c := by
  obtain ⟨O, T, rfl⟩ := h; obtain ⟨O', T', rfl⟩ := k; exact ⟨O ++ O', T ++ T', by simp⟩
theorem Ext.push (σ : AST) (o : AObj) : Ext σ (σ.push o) := ⟨[o], [], by simp [AST.push]⟩
theorem Ext.tok (σ : AST) (n es : Nat) : Ext σ (σ.tok n es) := ⟨[], [(n, es)], by simp [AST.tok]⟩
theorem Ext.setTok {σ σ' : AST} (h : Ext σ σ') {t n es : Nat} (ht : σ.toks.length ≤ t) : Ext σ (σ'.setTok t n es) := by
  obtain ⟨O, T, rfl⟩ := h
  exact ⟨O, T.set (t - σ.toks.length) (n, es), by simp only [AST.setTok]; rw [List.set_append]; simp [show ¬ t < σ.toks.length by omega]⟩
theorem Ext.set {σ σ' : AST} (h : Ext σ σ') {i : Nat} {o : AObj} (hi : σ.objs.length ≤ i) : Ext σ (σ'.set i o) := by
  obtain ⟨O, T, rfl⟩ := h
  exact ⟨O.set (i - σ.objs.length) o, T, by simp only [AST.set]; rw [List.set_append]; simp [show ¬ i < σ.objs.length by omega]⟩

theorem inv_cut (hI0 : Inv g σ w) (hE : Ev g w g' w') (hI : Inv g' σ' w') (hx : Ext σ σ') : Inv (g'.cut σ.objs.length σ.toks.length) σ w' ∧ Ev g w (g'.cut σ.objs.length σ.toks.length) w' := by
  obtain ⟨O, T, rfl⟩ := hx
  have hn := hI.nobj
  have ht := hI.ntok
  simp only [List.length_append] at hn ht
  have objs : ∀ {i : Nat} {o : AObj}, σ.objs[i]? = some o → (σ.objs ++ O)[i]? = some o ∧ ∀ x, g'.objs[i]? = some x → (g'.cut σ.objs.length σ.toks.length).objs[i]? = some x := by
    intro i o h
    have hlt := (List.getElem?_eq_some_iff.1 h).1
    exact ⟨by rw [List.getElem?_append_left hlt]; exact h, fun x hx => by simp [G.cut, List.getElem?_take, hlt, hx]⟩
  have uncut : ∀ {i : Nat} {x}, (g'.cut σ.objs.length σ.toks.length).objs[i]? = some x → g'.objs[i]? = some x := by
    intro i x h; simp only [G.cut, List.getElem?_take] at h; split at h
    · exact h
    · cases h
  have unt : ∀ {i : Nat} {x}, (g'.cut σ.objs.length σ.toks.length).toks[i]? = some x → g'.toks[i]? = some x ∧ i < σ.toks.length := by
    intro i x h; simp only [G.cut, List.getElem?_take] at h; split at h
    · rename_i hh; exact ⟨h, hh⟩
    · cases h
  constructor
  · refine ⟨hI.base, ?_, ?_, ?_, hI.rows, ?_, ?_, ?_⟩
    · simp [G.cut]; omega
    · intro i o ho hl
      obtain ⟨h1, h2⟩ := objs ho
      obtain ⟨b, sh, hg, hb, hlim, hin⟩ := hI.obj i o h1 hl
      refine ⟨b, sh, h2 _ hg, hb, hlim, ?_⟩
      obtain ⟨b0, sh0, hg0, hb0, hlim0, hin0⟩ := hI0.obj i o ho hl
      have hgl : g.objs.length = σ.objs.length := hI0.nobj.symm
      have htl : g.toks.length = σ.toks.length := hI0.ntok.symm
      cases o with
      | gone => trivial
      | pin l o vs xs =>
        refine ⟨hin.1, hin.2.1, fun i v x h1 h2 => ?_⟩
        rcases hin.2.2 i v x h1 h2 with h | ⟨a1, a2⟩
        · exact .inl h
        · rcases hin0.2.2 i v x h1 h2 with h | ⟨b1, b2⟩
          · exact .inl h
          · have s1 := relC_small b1
            rw [hgl, htl] at s1
            exact .inr ⟨relC_cut s1 a1, a2⟩
      | cells v =>
        obtain ⟨_, _, _, hr0, _⟩ := hin0
        obtain ⟨c, e, hc, hr, hs⟩ := hin
        have := relC_small hr0
        rw [hgl, htl] at this
        exact ⟨c, e, hc, relC_cut this hr, hs⟩
      | map es ck =>
        obtain ⟨me0, hm0, hl0, hes0, _⟩ := hin0
        obtain ⟨me, hm, hl', hes, hbn, hinj⟩ := hin
        refine ⟨me, hm, hl', fun i e m hk hmm => ?_, hbn, hinj⟩
        have hi : i < es.length := (List.getElem?_eq_some_iff.1 hk).1
        obtain ⟨a0, a1, a2⟩ := hes i e m hk hmm
        obtain ⟨b0, b1, b2⟩ := hes0 i e me0[i] hk (by rw [Array.getElem?_eq_getElem (by omega)])
        have s1 := relC_small b1.1
        have s2 := relC_small b2.1
        rw [hgl, htl] at s1 s2
        exact ⟨a0, ⟨relC_cut s1 a1.1, a1.2⟩, ⟨relC_cut s2 a2.1, a2.2⟩⟩
    · intro i j o o' b sh sh' hi hj hl hl' hgi hgj
      exact hI.inj i j o o' b sh sh' (objs hi).1 (objs hj).1 hl hl' (uncut hgi) (uncut hgj)
    · simp [G.cut]; omega
    · intro t e he
      obtain ⟨h1, h2⟩ := unt he
      obtain ⟨a, b⟩ := hI.tok t e h1
      refine ⟨by rw [← a]; simp [List.getElem?_append_left h2], b⟩
    · intro t u e e' b o o' h1 h2
      exact hI.tinj t u e e' b o o' (unt h1).1 (unt h2).1
  · refine ⟨hE.os, hE.tape, hE.output, hE.size, hE.base, hE.old, ?_, hE.lim, ?_⟩
    · intro i x h
      have := (List.getElem?_eq_some_iff.1 h).1
      have h2 := hI0.nobj
      simp only [G.cut, List.getElem?_take]; rw [if_pos (by omega)]; exact hE.objs i x h
    · intro t e h
      have := (List.getElem?_eq_some_iff.1 h).1
      have h2 := hI0.ntok
      obtain ⟨e', h3, h4⟩ := hE.toks t e h
      exact ⟨e', by simp only [G.cut, List.getElem?_take]; rw [if_pos (by omega)]; exact h3, h4⟩

/-- What is left behind and reached by nobody is forgotten. -/
theorem TCalls.drop {f : FuncId} {args : List AV} (h : TCalls P f args σ fun v σ' => Ext σ σ' ∧ v.noRef = true ∧ K v.strip σ) : TCalls P f args σ K :=
  ⟨h.1, fun g w xs hI hr => (h.2 g w xs hI hr).mono fun e w' ⟨x, g', v, σ', he, h1, h2, h3, h4, h5, h6⟩ =>
    ⟨x, _, v.strip, σ, he, (inv_cut hI h1 h2 h4).2, (inv_cut hI h1 h2 h4).1, relV_strip h5 h3, h6⟩⟩

/-! ### Appending -/

def canApp (σ : AST) (tk : Tk) (n es : Nat) : Prop := match tk with
  | .full => True
  | .own k => σ.toks[k]? = some (n, es)
  | .none | .lit => False
def growT (σ : AST) : Tk → Tk
  | .full => .own σ.toks.length
  | tk => tk
def growS (σ : AST) (tk : Tk) (n es : Nat) : AST := match tk with
  | .full => σ.tok n es
  | .own k => σ.setTok k n es
  | .none | .lit => σ

theorem growT_growS {σ : AST} {tk : Tk} {n es : Nat} : growT (growS σ tk n es) (growT σ tk) = growT σ tk := by
  cases tk <;> rfl
theorem growS_growS {σ : AST} {tk : Tk} {n m n0 es es0 : Nat} (h : canApp σ tk n0 es0) : growS (growS σ tk n es) (growT σ tk) m es = growS σ tk m es := by
  cases tk with
  | none => exact h.elim
  | lit => exact h.elim
  | full => simp [growS, growT, AST.setTok, AST.tok, List.set_append]
  | own k => simp [growS, growT, AST.setTok, List.set_set]
theorem canApp_grow {σ : AST} {tk : Tk} {n n0 es es0 : Nat} (h : canApp σ tk n0 es0) : canApp (growS σ tk n es) (growT σ tk) n es := by
  cases tk with
  | none => exact h.elim
  | lit => exact h.elim
  | full => simp [canApp, growS, growT, AST.tok]
  | own k =>
    have : k < σ.toks.length := (List.getElem?_eq_some_iff.1 h).1
    simp [canApp, growS, growT, AST.setTok, this]
theorem canFull {σ : AST} {n es : Nat} : canApp σ .full n es := trivial
theorem canGrow {σ : AST} {n es : Nat} : canApp (growS σ .full n es) (growT σ .full) n es := canApp_grow (n0 := 0) (es0 := 0) trivial
theorem growFull {σ : AST} {n m es : Nat} : growS (growS σ .full n es) (growT σ .full) m es = growS σ .full m es := growS_growS (n0 := 0) (es0 := 0) trivial
theorem Ext.grow {σ σ' : AST} (h : Ext σ σ') {tk : Tk} {n es : Nat} (ht : tk = .full ∨ ∃ k, tk = .own k ∧ σ.toks.length ≤ k) : Ext σ (growS σ' tk n es) := by
  rcases ht with rfl | ⟨k, rfl, hk⟩
  · exact h.trans (Ext.tok _ _ _)
  · exact h.setTok hk
/-- An owner that was not there at the beginning. -/
def tkNew (σ : AST) (tk : Tk) : Prop := tk = .full ∨ ∃ k, tk = .own k ∧ σ.toks.length ≤ k
theorem Ext.toks_le {σ σ' : AST} (h : Ext σ σ') : σ.toks.length ≤ σ'.toks.length := by obtain ⟨O, T, rfl⟩ := h; simp
theorem tkNew.grow {σ s : AST} {tk : Tk} (h : tkNew σ tk) (hx : Ext σ s) : tkNew σ (growT s tk) := by
  rcases h with rfl | ⟨k, rfl, hk⟩
  · exact .inr ⟨_, rfl, hx.toks_le⟩
  · exact .inr ⟨k, rfl, hk⟩
theorem Ext.growFull (σ : AST) (n es : Nat) : Ext σ (growS σ .full n es) := Ext.tok _ _ _

end Go.Aff

/- Regions that draw their order, where nothing is left behind; literals, appends, conversions of slices as rules. -/
namespace Go.Aff
set_option linter.unusedVariables false
set_option linter.unusedSimpArgs false

variable {P : Program} {σ σ' : AST} {K : AV → AST → Prop} {KV : AV → Prop} {ops : Array Oper} {τ : Env} {KE : Env → AST → Prop}

def gop (ops : Array Oper) (j : Nat) : Option Oper := ops[j]?
theorem gop_zero {o : Oper} {l : List Oper} : gop ⟨o :: l⟩ 0 = some o := nr rfl
theorem gop_succ {o : Oper} {l : List Oper} {n : Nat} : gop ⟨o :: l⟩ (n + 1) = gop ⟨l⟩ n := by simp [gop]

def seqI (P : Program) (ops : Array Oper) : List Nat → Env → AST → (Env → AST → Prop) → Prop
  | [], τ, σ, K => K τ σ
  | i :: r, τ, σ, K => match gop ops i with
    | none => False
    | some o => stepW P ops o τ σ fun v σ' => σ' = σ ∧ seqI P ops r (τ.putO o.dst v) σ' K

def pastOk (P : Program) (ops : Array Oper) (past : List (Nat × Env × AV)) (σ : AST) : Prop :=
  ∀ x ∈ past, ∀ o, ops[x.1]? = some o → stepW P ops o x.2.1 σ fun v' σ'' => v' = x.2.2 ∧ σ'' = σ

theorem seqI_awpD : ∀ (l : List Nat) (past : List (Nat × Env × AV)) (τ : Env) (σ : AST), pastOk P ops past σ → (∀ t, lenOk (τ t)) → seqI P ops l τ σ KE → awpD P ops l past τ σ KE
  | [], past, τ, σ, hp, hlen, h => h
  | i :: r, past, τ, σ, hp, hlen, h => by
    simp only [seqI] at h
    split at h
    · exact h.elim
    · rename_i o hk
      have hk : ops[i]? = some o := hk
      simp only [awpD, hk]
      cases he : effO P o with
      | true =>
        simp only [if_true]
        refine stepW_mono (fun v σ' hh => ?_) h
        obtain ⟨rfl, hh⟩ := hh
        exact ⟨fun x hx _ o ho => hp x hx o ho, fun hlv => seqI_awpD r past _ _ hp hlv hh⟩
      | false =>
        simp only [Bool.false_eq_true, if_false]
        obtain ⟨v, hv, hkk⟩ := stepW_det hlen he h
        refine hkk _ fun hlv => seqI_awpD r _ _ _ ?_ hlv hv.2
        intro x hx o' ho'
        rcases List.mem_cons.1 hx with rfl | hx
        · dsimp only at ho' ⊢
          rw [hk] at ho'; cases ho'
          exact hkk _ ⟨rfl, rfl⟩
        · exact hp x hx o' ho'

/-- A region that draws its order, where no state is left behind: walked in one order. -/
theorem awp_drawS {id : Nat} {ops : Array Oper} {Q : Exit → Env → AST → Prop} (ord : List Nat) (ho : ordOk P ops ord = true) (h : seqI P ops ord τ σ (Q .normal)) : awp P (.region id ops true) Q τ σ :=
  awp_draw ord ho fun hlen => seqI_awpD ord [] τ σ (fun x hx => by simp at hx) hlen h

def seqO (P : Program) (ops : Array Oper) (o : Option Oper) (r : List Nat) (τ : Env) (σ : AST) (K : Env → AST → Prop) : Prop := match o with
  | none => False
  | some o => stepW P ops o τ σ fun v σ' => σ' = σ ∧ seqI P ops r (τ.putO o.dst v) σ' K
theorem seqI_nil : seqI P ops [] τ σ KE = KE τ σ := nr rfl
theorem seqI_cons {i : Nat} {r : List Nat} : seqI P ops (i :: r) τ σ KE = seqO P ops (gop ops i) r τ σ KE := by simp only [seqI, seqO]
theorem seqO_some {o : Oper} {r : List Nat} : seqO P ops (some o) r τ σ KE = stepW P ops o τ σ (@Lam ⟨fun v σ' => σ' = σ ∧ @Later ⟨seqI P ops r (τ.putO o.dst v) σ' KE⟩⟩) := nr rfl

/-! ### Slices -/

/-- What a slice's type is. -/
structure ElemT (P : Program) (t e c b : Nat) : Prop where
  hu : P.underlying t = some (.slice e)
  hc : P.cellsOf e = c
  hb : P.bytesOf e = b
  hz : ∃ z, ZeroOf P e z
  ha : 0 < c

theorem append_slice {t u e c b : Nat} (E : ElemT P t e c b) {tk tk2 : Tk} {xs ys : List AV} (hu : isSliceT P u = true) (hcan : canApp σ tk xs.length c) (hys : ∀ v ∈ ys, v.size = c) (hxs : ∀ v ∈ xs, v.size = c)
    (hl : (xs.length + ys.length) * b ≤ 140737488355328) (hm : xs.length + ys.length ≤ maxL) (hK : K (.slice (growT σ tk) (xs ++ ys)) (growS σ tk (xs.length + ys.length) c)) :
    appendW P ⟨[t, u]⟩ (.slice tk xs) (.slice tk2 ys) σ K := by
  refine .inl ⟨t, u, e, xs, tk, ys, rfl, rfl, E.hu, rfl, ?_, E.hz, ?_, ?_, hm, ?_⟩
  · simp [elemsOf, isSliceT_iff hu]
  · rw [E.hc]; exact hys
  · rw [E.hb]; exact hl
  · cases tk with
    | none => exact hcan.elim
    | lit => exact hcan.elim
    | full => exact ⟨by rw [E.hc]; exact hxs, by rw [E.hc]; exact hK⟩
    | own k => exact ⟨by rw [E.hc]; exact hcan, by rw [E.hc]; exact hK⟩

theorem size_u8s {l : List UInt8} : ∀ v ∈ u8s l, v.size = 1 := by
  intro v hv; simp only [u8s, List.mem_map] at hv; obtain ⟨b, _, rfl⟩ := hv; simp [AV.size]

theorem u8s_length {l : List UInt8} : (u8s l).length = l.length := by simp [u8s]
theorem u8s_append {a b : List UInt8} : u8s (a ++ b) = u8s a ++ u8s b := by simp [u8s]
theorem unU8_u8s : ∀ {l : List UInt8}, unU8 (u8s l) = some l
  | [] => rfl
  | b :: r => by
    have := unU8_u8s (l := r)
    simp only [u8s] at this ⊢
    simp [unU8, this]

/-- Bytes behind bytes. -/
theorem append_bytes {t u e b : Nat} (E : ElemT P t e 1 b) {tk tk2 : Tk} {xs ys : List UInt8} (hu : isSliceT P u = true) (hcan : canApp σ tk xs.length 1)
    (hl : (xs.length + ys.length) * b ≤ 140737488355328) (hm : xs.length + ys.length ≤ maxL) (hK : K (.slice (growT σ tk) (u8s (xs ++ ys))) (growS σ tk (xs.length + ys.length) 1)) :
    appendW P ⟨[t, u]⟩ (.slice tk (u8s xs)) (.slice tk2 (u8s ys)) σ K :=
  append_slice E hu (by rw [u8s_length]; exact hcan) size_u8s size_u8s (by rw [u8s_length, u8s_length]; exact hl) (by rw [u8s_length, u8s_length]; exact hm) (by rw [u8s_length, u8s_length, ← u8s_append]; exact hK)

/-- A text behind bytes. -/
theorem append_text {t u e b : Nat} (E : ElemT P t e 1 b) {tk : Tk} {xs s : List UInt8} (hu : P.underlying u = some .string) (hcan : canApp σ tk xs.length 1)
    (hl : (xs.length + s.length) * b ≤ 140737488355328) (hm : xs.length + s.length ≤ maxL) (hK : K (.slice (growT σ tk) (u8s (xs ++ s))) (growS σ tk (xs.length + s.length) 1)) :
    appendW P ⟨[t, u]⟩ (.slice tk (u8s xs)) (.str s) σ K := by
  refine .inl ⟨t, u, e, u8s xs, tk, u8s s, rfl, rfl, E.hu, rfl, ?_, E.hz, ?_, ?_, ?_, ?_⟩
  · simp [elemsOf, hu]
  · rw [E.hc]; exact size_u8s
  · rw [E.hb, u8s_length, u8s_length]; exact hl
  · rw [u8s_length, u8s_length]; exact hm
  · rw [u8s_length, u8s_length, ← u8s_append]
    cases tk with
    | none => exact hcan.elim
    | lit => exact hcan.elim
    | full => exact ⟨by rw [E.hc]; exact size_u8s, by rw [E.hc]; exact hK⟩
    | own k => exact ⟨by rw [E.hc]; exact hcan, by rw [E.hc]; exact hK⟩

theorem build_slice {t e c b n : Nat} (E : ElemT P t e c b) {ps : List (Nat × AV)} (h1 : ps.map (·.1) = List.range n) (h2 : n * c ≤ 16777216) (h3 : ∀ v ∈ ps.map (·.2), fits P e v ∧ v.known = true) (hK : KV (.slice .full (ps.map (·.2)))) :
    buildSliceW P t n ps KV := ⟨e, E.hu, h1, by rw [E.hc]; exact h2, h3, E.hz, by rw [E.hc]; exact E.ha, .inl hK⟩

theorem build_lit {t e c b n : Nat} (E : ElemT P t e c b) {ps : List (Nat × AV)} (hn : 0 < n) (h1 : ps.map (·.1) = List.range n) (h2 : n * c ≤ 16777216) (h3 : ∀ v ∈ ps.map (·.2), fits P e v ∧ v.known = true) (hK : KV (.slice .lit (ps.map (·.2)))) :
    buildSliceW P t n ps KV := ⟨e, E.hu, h1, by rw [E.hc]; exact h2, h3, E.hz, by rw [E.hc]; exact E.ha, .inr ⟨hn, hK⟩⟩

/-- One byte. -/
theorem build_byte {t e b : Nat} (E : ElemT P t e 1 b) (ha : aggT P e = some false) {n : Int} (h0 : 0 ≤ n) (h1 : n < 256) (hK : KV (.slice .full (u8s [UInt8.ofNat n.toNat]))) : buildSliceW P t 1 [(0, .int .u8 n)] KV := by
  refine build_slice E rfl (by decide) ?_ ?_
  · intro v hv
    simp only [List.map_cons, List.map_nil, List.mem_singleton] at hv
    subst hv
    exact ⟨⟨by rw [ha]; rfl, by rw [E.hc]; simp [AV.size]⟩, rfl⟩
  · have : u8s [UInt8.ofNat n.toNat] = [.int .u8 n] := by
      simp only [u8s, List.map_cons, List.map_nil]
      have : ((UInt8.ofNat n.toNat).toNat : Int) = n := by
        simp [UInt8.toNat_ofNat']; omega
      rw [this]
    rw [this] at hK
    exact hK

/-- Bytes as a text. -/
theorem conv_bytes {s d e : Nat} (hs : P.underlying s = some (.slice e)) (he : P.underlying e = some (.int .u8)) (hd : P.underlying d = some .string) {tk : Tk} {l : List UInt8} : convW P s d (.slice tk (u8s l)) σ K = K (.str l) σ := by
  simp only [convW, hs, hd, unU8_u8s, Option.some.injEq, TypeDesc.slice.injEq]
  simp only [eq_iff_iff]
  constructor
  · rintro (⟨_, _, rfl, _, _, rfl, h⟩ | ⟨_, rfl, _⟩)
    · exact h
    · rw [hs] at hd; cases hd
  · intro h; exact .inl ⟨_, _, rfl, he, trivial, rfl, h⟩
/-- The bytes of a constant text, as they are. -/
theorem conv_lit {s : Nat} (hs : isSliceT P s = true) (he : P.underlying (elemT P s) = some (.int .u8)) {xs : List AV} : convW P s s (.slice .lit xs) σ K = K (.slice .full xs) σ := by
  have hs := isSliceT_iff hs
  simp only [convW, eq_iff_iff]
  constructor
  · rintro (⟨_, _, _, _, h, _⟩ | ⟨_, _, _, _, _, h⟩)
    · rw [hs] at h; cases h
    · exact h
  · intro h; exact .inr ⟨trivial, trivial, _, hs, he, h⟩

theorem conv_bytes' {s d : Nat} (hs : isSliceT P s = true) (he : P.underlying (elemT P s) = some (.int .u8)) (hd : P.underlying d = some .string) {tk : Tk} {l : List UInt8} : convW P s d (.slice tk (u8s l)) σ K = K (.str l) σ :=
  conv_bytes (isSliceT_iff hs) he hd

/-- A loop: what each round is told, and that it comes nearer. -/
theorem awp_rounds {α : Type} {c : Code} {Q : Exit → Env → AST → Prop} (S : α → Env → AST → Prop) (μ : α → Nat) (x0 : α) (h0 : S x0 τ σ)
    (h : ∀ x τ σ, S x τ σ → awp P c (thenQ (@LamE ⟨fun τ' σ' => @Later ⟨∃ x', μ x' < μ x ∧ S x' τ' σ'⟩⟩) Q) τ σ) : awp P (.loop c) Q τ σ :=
  awp_loop_of S μ x0 h0 fun x τ σ hx => by
    have := h x τ σ hx
    have e : (@LamE ⟨fun τ' σ' => @Later ⟨∃ x', μ x' < μ x ∧ S x' τ' σ'⟩⟩) = (@LamE ⟨fun τ' σ' => ∃ m, m < μ x ∧ ∃ x', S x' τ' σ' ∧ μ x' = m⟩) := by
      funext τ' σ'
      simp only [LamE, Later, eq_iff_iff]
      constructor
      · rintro ⟨x', h1, h2⟩; exact ⟨_, h1, x', h2, rfl⟩
      · rintro ⟨_, h1, x', h2, rfl⟩; exact ⟨x', h1, h2⟩
    rwa [e] at this

theorem nth_get {α : Type} {l : List α} {i : Nat} {y : α} {F : α → Prop} (h : l[i]? = some y) (hF : F y) : nthW l (i : Int) (@LamA _ ⟨F⟩) := by
  refine ⟨by omega, ?_, fun z hz => ?_⟩
  · have := (List.getElem?_eq_some_iff.1 h).1; omega
  · have : ((i : Int)).toNat = i := by omega
    rw [this, h] at hz
    cases hz; exact hF
theorem get_lt {α : Type} {l : List α} {i : Nat} (h : i < l.length) : ∃ y, l[i]? = some y := ⟨_, List.getElem?_eq_getElem h⟩

theorem tdiv_nat (n m : Nat) : Int.tdiv (n : Int) (m : Int) = ((n / m : Nat) : Int) := (Int.ofNat_tdiv n m).symm
theorem tmod_nat (n m : Nat) : Int.tmod (n : Int) (m : Int) = ((n % m : Nat) : Int) := (Int.ofNat_tmod n m).symm
theorem tdiv_lit (n m : Nat) : Int.tdiv (n : Int) (OfNat.ofNat (m + 1)) = ((n / (m + 1) : Nat) : Int) := tdiv_nat n (m + 1)
theorem tmod_lit (n m : Nat) : Int.tmod (n : Int) (OfNat.ofNat (m + 1)) = ((n % (m + 1) : Nat) : Int) := tmod_nat n (m + 1)
theorem tdiv10_neg {n : Int} (h : n ≤ 0) : n.tdiv 10 = -((-n) / 10) := by
  have := Int.neg_tdiv (a := -n) (b := 10)
  rw [Int.neg_neg] at this
  rw [this, Int.tdiv_eq_ediv_of_nonneg (by omega)]
theorem tmod10_neg {n : Int} (h : n ≤ 0) : n.tmod 10 = -((-n) % 10) := by
  have := Int.neg_tmod (a := -n) (b := 10)
  rw [Int.neg_neg] at this
  rw [this, Int.tmod_eq_emod_of_nonneg (by omega)]
theorem wrap_i64 {n : Int} (h0 : -9223372036854775808 ≤ n) (h1 : n ≤ 9223372036854775807) : IntKind.i64.wrap n = n := by
  rw [IntKind.wrap_i64]; omega
theorem wrap_u64 {n : Int} (h0 : 0 ≤ n) (h1 : n < 18446744073709551616) : IntKind.u64.wrap n = n := by
  rw [IntKind.wrap_u64]; omega
theorem wrap_u8 {n : Int} (h0 : 0 ≤ n) (h1 : n < 256) : IntKind.u8.wrap n = n := by
  rw [IntKind.wrap_u8]; omega

def extractO (v : Option AV) (K : AV → Prop) : Prop := match v with
  | some v => K v
  | none => False
theorem known_int {k : IntKind} {n : Int} : (AV.int k n).known = true := rfl
theorem known_str {s : List UInt8} : (AV.str s).known = true := rfl
theorem known_bool {b : Bool} : (AV.bool b).known = true := rfl
theorem known_slice {tk : Tk} {xs : List AV} : (AV.slice tk xs).known = true := rfl
theorem known_ptr {p : Option (Nat × List Nat)} : (AV.ptr p).known = true := rfl
theorem known_eptr {v : AV} : (AV.eptr v).known = true := rfl
theorem known_agg {ps : List AV} : (AV.agg ps).known = true := rfl
theorem known_dig {d : Dig} : (AV.dig d).known = true := rfl
theorem known_fn {f : Fn} {a b : List AV} : (AV.fn f a b).known = true := rfl
theorem known_mp {r : Option Nat} : (AV.mp r).known = true := rfl
theorem res_two {a b : Nat} : resW P [.tmp a, .tmp b] τ σ KV = (((τ a).known = true ∧ (τ b).known = true) ∧ @Later ⟨KV (.tuple [τ a, τ b])⟩) := by
  simp [resW, resList, oneRes, Later]
theorem res_three {a b c : Nat} : resW P [.tmp a, .tmp b, .tmp c] τ σ KV = (((τ a).known = true ∧ (τ b).known = true ∧ (τ c).known = true) ∧ @Later ⟨KV (.tuple [τ a, τ b, τ c])⟩) := by
  simp [resW, resList, oneRes, Later]
theorem res_four {a b c d : Nat} : resW P [.tmp a, .tmp b, .tmp c, .tmp d] τ σ KV = (((τ a).known = true ∧ (τ b).known = true ∧ (τ c).known = true ∧ (τ d).known = true) ∧ @Later ⟨KV (.tuple [τ a, τ b, τ c, τ d])⟩) := by
  simp [resW, resList, oneRes, Later]
theorem res_none : resW P [] τ σ KV = KV (.tuple []) := by simp [resW, resList]
theorem extract_at {vs : List AV} {i : Nat} : extractW (.tuple vs) i KV = extractO vs[i]? KV := nr rfl
theorem extractO_some {v : AV} : extractO (some v) KV = KV v := nr rfl
theorem absV_empty : absV (.string ⟨#[]⟩) = .str [] := nr rfl

attribute [go_sem ↓] res_two res_three res_four res_none
attribute [go_sem] known_int known_str known_bool known_slice known_ptr known_eptr known_agg known_dig known_fn known_mp extract_at extractO_some absV_empty List.getElem?_cons_zero List.getElem?_cons_succ List.length_nil List.length_cons Nat.reduceLeDiff
attribute [go_sem] beq_self_eq_true bne_self_eq_false ne_eq not_false_eq_true Int.reduceEq Int.reduceLT Int.reduceNeg Int.reduceBEq Int.reduceBNe Nat.reduceBEq decide_true decide_false Bool.true_and Bool.false_and Bool.and_true Bool.and_false Bool.or_false Bool.or_true Bool.false_or Bool.true_or List.cons_append List.nil_append
attribute [go_sem ↓] gop_zero gop_succ seqI_nil seqI_cons seqO_some
attribute [go_sem] conv_bytes'
end Go.Aff

/- Layer 1: what its functions are. Plain. -/
namespace Go.Aff.L01
open Go.Aff

/-- A number's digits. -/
def dg (n : Nat) : List UInt8 := if n < 10 then [UInt8.ofNat (48 + n)] else dg (n / 10) ++ [UInt8.ofNat (48 + n % 10)]

theorem dg_small {n : Nat} (h : n < 10) : dg n = [UInt8.ofNat (48 + n)] := by rw [dg, if_pos h]
theorem dg_big {n : Nat} (h : ¬ n < 10) : dg n = dg (n / 10) ++ [UInt8.ofNat (48 + n % 10)] := by rw [dg, if_neg h]
theorem dg_len : ∀ (k n : Nat), n < 10 ^ (k + 1) → (dg n).length ≤ k + 1
  | 0, n, h => by rw [dg_small (by simpa using h)]; simp
  | k + 1, n, h => by
    by_cases h10 : n < 10
    · rw [dg_small h10]; simp
    · rw [dg_big h10, List.length_append]
      have := dg_len k (n / 10) (by rw [Nat.div_lt_iff_lt_mul (by decide)]; rw [Nat.pow_succ] at h; exact h)
      simp; omega
theorem dg_len20 {n : Nat} (h : n < 18446744073709551616) : (dg n).length ≤ 20 := dg_len 19 n (Nat.lt_of_lt_of_le h (by decide))

def numS (n : Int) : List UInt8 := (if n < 0 then [45] else []) ++ dg n.natAbs ++ [59]
theorem numS_len {n : Int} (h0 : -9223372036854775808 ≤ n) (h1 : n ≤ 9223372036854775807) : (numS n).length ≤ 22 := by
  have := dg_len20 (n := n.natAbs) (by omega)
  unfold numS; split <;> simp <;> omega

end Go.Aff.L01

/- Layer 1, walked: digits. -/
namespace Go.Aff.L01
open Go.Proofs Go.Aff
set_option linter.unusedVariables false
set_option maxRecDepth 20000
set_option linter.unusedSimpArgs false
theorem mixed : Try.prog.follows .mixedOrders = true := rfl
theorem agg3 : aggT Try.prog 3 = some false := by kernel_rfl
theorem cells3 : Try.prog.cellsOf 3 = 1 := by kernel_rfl
theorem agg5 : aggT Try.prog 5 = some false := by kernel_rfl
theorem zero5 : ZeroOf Try.prog 5 (.int .u8 0) := ⟨_, _, rfl, rfl, rfl, rfl, rfl⟩
theorem E51 : ElemT Try.prog 89 5 1 1 := ⟨rfl, by kernel_rfl, by kernel_rfl, ⟨_, zero5⟩, by decide⟩
theorem E25 : ElemT Try.prog 38 3 1 8 := ⟨rfl, by kernel_rfl, by kernel_rfl, ⟨.int .i64 0, ⟨_, _, rfl, rfl, rfl, rfl, rfl⟩⟩, by decide⟩
theorem S51 : isSliceT Try.prog 89 = true := rfl
attribute [local go_sem] Try.underlying3 Try.underlying4 Try.underlying5 Try.underlying9 Try.underlying89 Try.underlying118

theorem digits_c : ∀ (n : Nat), n < 18446744073709551616 → ∀ {tk : Tk} {l : List UInt8} {σ : AST} {K : AV → AST → Prop}, canApp σ tk l.length 1 → l.length ≤ 20000000 →
    K (.slice (growT σ tk) (u8s (l ++ dg n))) (growS σ tk (l ++ dg n).length 1) → TCalls Try.prog 71 [.slice tk (u8s l), .int .u64 n] σ K := by
  intro n
  induction n using Nat.strongRecOn with
  | ind n ih =>
  intro hn tk l σ K hcan hl hK
  refine tcalls_walk Try.f71 _ [.tmp 4] Try.func71 rfl rfl rfl mixed (Nat.le_of_ble_eq_true rfl) rfl fun hlen => ?_
  refine awp_seq_k fun KA hKA => ?_
  simp -dsimp only [↓reduceIte, go_sem]
  refine hKA _ _ (awp_seq_k fun KB hKB => ?_)
  have last : ∀ {tk : Tk} {l : List UInt8} {σ : AST} {τ : Env}, canApp σ tk l.length 1 → l.length ≤ 20000100 → τ 0 = .slice tk (u8s l) → τ 1 = .int .u64 n →
      K (.slice (growT σ tk) (u8s (l ++ [UInt8.ofNat (48 + n % 10)]))) (growS σ tk (l.length + 1) 1) → KB τ σ := by
    intro tk l σ τ hcan hl h0 h1 hK
    refine hKB _ _ ?_
    simp -dsimp only [↓reduceIte, go_sem, h0, h1]
    rw [show Int.tmod (n : Int) 10 = ((n % 10 : Nat) : Int) from tmod_nat n 10, wrap_u64 (by omega) (by omega), wrap_u8 (by omega) (by omega)]
    refine build_byte E51 agg5 (by omega) (by omega) ?_
    rw [show UInt8.ofNat ((48 : Int) + ((n % 10 : Nat) : Int)).toNat = UInt8.ofNat (48 + n % 10) by congr 1]
    simp -dsimp only [↓reduceIte, go_sem]
    refine append_bytes E51 S51 hcan (by simp; omega) (by simp [maxL]; omega) ?_
    simp -dsimp only [↓reduceIte, go_sem]
    exact hK
  simp -dsimp only [↓reduceIte, go_sem]
  refine boolW_split (fun hb => ?_) (fun hb => ?_)
  · have h10 : ¬ n < 10 := by simp at hb; omega
    simp -dsimp only [↓reduceIte, go_sem]
    rw [show Int.tdiv (n : Int) 10 = ((n / 10 : Nat) : Int) from tdiv_nat n 10, wrap_u64 (by omega) (by omega)]
    refine ih (n / 10) (by omega) (by omega) hcan hl ?_
    simp -dsimp only [↓reduceIte, go_sem]
    have hd := dg_len20 (n := n / 10) (by omega)
    refine last (tk := growT σ tk) (l := l ++ dg (n / 10)) (by exact canApp_grow hcan) (by simp; omega) ?_ ?_ ?_
    · simp -dsimp only [↓reduceIte, go_sem]
    · simp -dsimp only [↓reduceIte, go_sem]
    · rw [growT_growS, growS_growS hcan]
      rw [dg_big h10] at hK
      rw [show (l ++ dg (n / 10)).length + 1 = (l ++ (dg (n / 10) ++ [UInt8.ofNat (48 + n % 10)])).length by simp; omega, List.append_assoc]
      exact hK
  · have h10 : n < 10 := by simp at hb; omega
    simp -dsimp only [↓reduceIte, go_sem]
    refine last hcan (by omega) ?_ ?_ ?_
    · simp -dsimp only [↓reduceIte, go_sem]
    · simp -dsimp only [↓reduceIte, go_sem]
    · rw [dg_small h10] at hK
      rw [Nat.mod_eq_of_lt h10]
      rw [show l.length + 1 = (l ++ [UInt8.ofNat (48 + n)]).length by simp]
      exact hK
end Go.Aff.L01

