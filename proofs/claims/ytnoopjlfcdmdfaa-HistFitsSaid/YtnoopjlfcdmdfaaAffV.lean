/- What is left behind and reached by nobody is forgotten; appending, as two functions. -/
import Derived.Test.YtnoopjlfcdmdfaaAffT
namespace Go.Aff
set_option linter.unusedVariables false
set_option linter.unusedSimpArgs false

variable {P : Program} {σ σ' : AST} {K : AV → AST → Prop} {KV : AV → Prop} {g g' : G} {w w' : World}

mutual
/-- No word on who may append any more. -/
def AV.strip : AV → AV
  | .slice .full [] => .slice .full []
  | .slice _ xs => .slice .none (AV.strips xs)
  | .eptr v => .eptr v.strip
  | .agg ps => .agg (AV.strips ps)
  | .tuple vs => .tuple (AV.strips vs)
  | .iface t v => .iface t v.strip
  | .fn f a b => .fn f (AV.strips a) (AV.strips b)
  | v => v
def AV.strips : List AV → List AV
  | [] => []
  | v :: r => v.strip :: AV.strips r
end

mutual
/-- It reaches no object. -/
def AV.noRef : AV → Bool
  | .ptr (some _) => false
  | .mp (some _) => false
  | .slice _ xs => AV.noRefs xs
  | .eptr v => v.noRef
  | .agg ps => AV.noRefs ps
  | .tuple vs => AV.noRefs vs
  | .iface _ v => v.noRef
  | .fn _ a b => AV.noRefs a && AV.noRefs b
  | _ => true
def AV.noRefs : List AV → Bool
  | [] => true
  | v :: r => v.noRef && AV.noRefs r
end

theorem strips_length : ∀ (l : List AV), (AV.strips l).length = l.length
  | [] => rfl
  | v :: r => by simp [AV.strips, strips_length r]

theorem strip_isAgg (v : AV) : v.strip.isAgg = v.isAgg := by
  unfold AV.strip; split <;> simp_all [AV.isAgg]

/-- The ghost's head. -/
def G.cut (g : G) (n m : Nat) : G := { g with objs := g.objs.take n, toks := g.toks.take m }

theorem cut_below {n m b k : Nat} : (g.cut n m).below b k = g.below b k := rfl

mutual
theorem relC_strip {n m : Nat} : ∀ {v : AV} {cs : List Value}, v.noRef = true → relC g w v cs → relC (g.cut n m) w v.strip cs
  | .undef, cs, hn, h | .bool _, cs, hn, h | .int _ _, cs, hn, h | .str _, cs, hn, h | .nilFn, cs, hn, h | .nilIface, cs, hn, h | .ptr none, cs, hn, h | .mp none, cs, hn, h | .dig _, cs, hn, h => by
    simp only [AV.strip, relC] at h ⊢; exact h
  | .ptr (some _), cs, hn, h | .mp (some _), cs, hn, h => by simp [AV.noRef] at hn
  | .slice tk xs, cs, hn, h => by
    simp only [AV.noRef] at hn
    simp only [relC] at h
    obtain ⟨a, c, es, css, rfl, hes, h1, h2, h3, h4, h5⟩ := h
    have key : relC (g.cut n m) w (.slice .none (AV.strips xs)) [.slice (a.map mkAddr) xs.length c] := by
      simp only [relC]
      exact ⟨a, c, es, css, by rw [strips_length], relEs_strip hn hes, by rw [strips_length]; exact h1, h2, h3, h4, trivial⟩
    unfold AV.strip
    split
    · rename_i h; cases h
      simp only [relC]
      exact ⟨a, c, es, css, rfl, by simpa [relEs] using hes, h1, h2, h3, h4, h5⟩
    · rename_i h; cases h; exact key
    all_goals simp_all
  | .eptr v, cs, hn, h => by
    simp only [AV.noRef] at hn
    simp only [AV.strip, relC] at h ⊢
    obtain ⟨b, o, cv, h1, h2, h3, h4⟩ := h
    exact ⟨b, o, cv, h1, relC_strip hn h2, h3, h4⟩
  | .agg ps, cs, hn, h => by
    simp only [AV.noRef] at hn
    simp only [AV.strip, relC] at h ⊢
    exact relPs_strip hn h
  | .iface t v, cs, hn, h => by
    simp only [AV.noRef] at hn
    simp only [AV.strip, relC] at h ⊢
    obtain ⟨x, h1, h2, h3⟩ := h
    exact ⟨x, h1, relC_strip hn h2, by rw [strip_isAgg]; exact h3⟩
  | .fn f a b, cs, hn, h => by
    simp only [AV.noRef, Bool.and_eq_true] at hn
    simp only [AV.strip, relC] at h ⊢
    obtain ⟨x, y, h1, h2, h3⟩ := h
    exact ⟨x, y, h1, relVs_strip hn.1 h2, relVs_strip hn.2 h3⟩
  | .tuple _, cs, hn, h => by simp [relC] at h
theorem relPs_strip {n m : Nat} : ∀ {ps : List AV} {cs : List Value}, AV.noRefs ps = true → relPs g w ps cs → relPs (g.cut n m) w (AV.strips ps) cs
  | [], cs, hn, h => by simp only [AV.strips, relPs] at h ⊢; exact h
  | p :: ps, cs, hn, h => by
    simp only [AV.noRefs, Bool.and_eq_true] at hn
    simp only [AV.strips, relPs] at h ⊢
    obtain ⟨c1, c2, h1, h2, h3⟩ := h
    exact ⟨c1, c2, h1, relC_strip hn.1 h2, relPs_strip hn.2 h3⟩
theorem relEs_strip {n m es : Nat} : ∀ {ps : List AV} {cs : List Value}, AV.noRefs ps = true → relEs g w es ps cs → relEs (g.cut n m) w es (AV.strips ps) cs
  | [], cs, hn, h => by simp only [AV.strips, relEs] at h ⊢; exact h
  | p :: ps, cs, hn, h => by
    simp only [AV.noRefs, Bool.and_eq_true] at hn
    simp only [AV.strips, relEs] at h ⊢
    obtain ⟨c1, c2, h1, h0, h2, h3⟩ := h
    exact ⟨c1, c2, h1, h0, relC_strip hn.1 h2, relEs_strip hn.2 h3⟩
theorem relVs_strip {n m : Nat} : ∀ {vs : List AV} {l : List Value}, AV.noRefs vs = true → relVs g w vs l → relVs (g.cut n m) w (AV.strips vs) l
  | [], l, hn, h => by simp only [AV.strips, relVs] at h ⊢; exact h
  | v :: vs, l, hn, h => by
    simp only [AV.noRefs, Bool.and_eq_true] at hn
    simp only [AV.strips, relVs] at h ⊢
    obtain ⟨x, r, h1, h2, h3, h4⟩ := h
    exact ⟨x, r, h1, relC_strip hn.1 h2, by rw [strip_isAgg]; exact h3, relVs_strip hn.2 h4⟩
end

theorem relV_strip {n m : Nat} {v : AV} {x : Value} (hn : v.noRef = true) (h : relV g w v x) : relV (g.cut n m) w v.strip x := by
  rcases h with rfl | ⟨vs, a, rfl, rfl, h⟩ | ⟨h1, h2⟩
  · exact .inl rfl
  · simp only [AV.noRef] at hn
    refine .inr (.inl ⟨AV.strips vs, a, by simp [AV.strip], rfl, relVs_strip hn h⟩)
  · exact .inr (.inr ⟨relC_strip hn h1, by rw [strip_isAgg]; exact h2⟩)

mutual
/-- It reaches the first n objects and m owners alone. -/
def AV.small (n m : Nat) : AV → Prop
  | .ptr (some q) => q.1 < n
  | .mp (some i) => i < n
  | .slice tk xs => (∀ t, tk = .own t → t < m) ∧ AV.smalls n m xs
  | .eptr v => v.small n m
  | .agg ps => AV.smalls n m ps
  | .iface _ v => v.small n m
  | .fn _ a b => AV.smalls n m a ∧ AV.smalls n m b
  | _ => True
def AV.smalls (n m : Nat) : List AV → Prop
  | [] => True
  | v :: r => v.small n m ∧ AV.smalls n m r
end

mutual
theorem relC_small : ∀ {v : AV} {cs : List Value}, relC g w v cs → v.small g.objs.length g.toks.length
  | .undef, cs, h | .bool _, cs, h | .int _ _, cs, h | .str _, cs, h | .nilFn, cs, h | .nilIface, cs, h | .ptr none, cs, h | .mp none, cs, h | .dig _, cs, h | .tuple _, cs, h => by simp only [AV.small]
  | .ptr (some (i, p)), cs, h => by
    simp only [relC] at h; obtain ⟨b, sh, o, h1, _⟩ := h
    simp only [AV.small]; exact (List.getElem?_eq_some_iff.1 h1).1
  | .mp (some i), cs, h => by
    simp only [relC] at h; obtain ⟨b, sh, h1, _⟩ := h
    simp only [AV.small]; exact (List.getElem?_eq_some_iff.1 h1).1
  | .slice tk xs, cs, h => by
    simp only [relC] at h
    obtain ⟨a, c, es, css, rfl, hes, h1, h2, h3, h4, h5⟩ := h
    simp only [AV.small]
    refine ⟨fun t ht => ?_, relEs_small hes⟩
    subst ht; obtain ⟨e, he, _⟩ := h5; exact (List.getElem?_eq_some_iff.1 he).1
  | .eptr v, cs, h => by
    simp only [relC] at h; obtain ⟨b, o, cv, h1, h2, h3, h4⟩ := h
    simp only [AV.small]; exact relC_small h2
  | .agg ps, cs, h => by simp only [relC] at h; simp only [AV.small]; exact relPs_small h
  | .iface t v, cs, h => by simp only [relC] at h; obtain ⟨x, h1, h2, h3⟩ := h; simp only [AV.small]; exact relC_small h2
  | .fn f a b, cs, h => by simp only [relC] at h; obtain ⟨x, y, h1, h2, h3⟩ := h; simp only [AV.small]; exact ⟨relVs_small h2, relVs_small h3⟩
theorem relPs_small : ∀ {ps : List AV} {cs : List Value}, relPs g w ps cs → AV.smalls g.objs.length g.toks.length ps
  | [], cs, h => by simp only [AV.smalls]
  | p :: ps, cs, h => by simp only [relPs] at h; obtain ⟨c1, c2, h1, h2, h3⟩ := h; simp only [AV.smalls]; exact ⟨relC_small h2, relPs_small h3⟩
theorem relEs_small {es : Nat} : ∀ {ps : List AV} {cs : List Value}, relEs g w es ps cs → AV.smalls g.objs.length g.toks.length ps
  | [], cs, h => by simp only [AV.smalls]
  | p :: ps, cs, h => by simp only [relEs] at h; obtain ⟨c1, c2, h1, h0, h2, h3⟩ := h; simp only [AV.smalls]; exact ⟨relC_small h2, relEs_small h3⟩
theorem relVs_small : ∀ {vs : List AV} {l : List Value}, relVs g w vs l → AV.smalls g.objs.length g.toks.length vs
  | [], l, h => by simp only [AV.smalls]
  | v :: vs, l, h => by simp only [relVs] at h; obtain ⟨x, r, h1, h2, h3, h4⟩ := h; simp only [AV.smalls]; exact ⟨relC_small h2, relVs_small h4⟩
end

mutual
theorem relC_cut {n m : Nat} : ∀ {v : AV} {cs : List Value}, v.small n m → relC g w v cs → relC (g.cut n m) w v cs
  | .undef, cs, hn, h | .bool _, cs, hn, h | .int _ _, cs, hn, h | .str _, cs, hn, h | .nilFn, cs, hn, h | .nilIface, cs, hn, h | .ptr none, cs, hn, h | .mp none, cs, hn, h | .dig _, cs, hn, h => by
    simp only [relC] at h ⊢; exact h
  | .ptr (some (i, p)), cs, hn, h => by
    simp only [AV.small] at hn
    simp only [relC] at h ⊢; obtain ⟨b, sh, o, h1, h2⟩ := h
    exact ⟨b, sh, o, by simp only [G.cut, List.getElem?_take]; rw [if_pos hn]; exact h1, h2⟩
  | .mp (some i), cs, hn, h => by
    simp only [AV.small] at hn
    simp only [relC] at h ⊢; obtain ⟨b, sh, h1, h2⟩ := h
    exact ⟨b, sh, by simp only [G.cut, List.getElem?_take]; rw [if_pos hn]; exact h1, h2⟩
  | .slice tk xs, cs, hn, h => by
    simp only [AV.small] at hn
    simp only [relC] at h ⊢
    obtain ⟨a, c, es, css, rfl, hes, h1, h2, h3, h4, h5⟩ := h
    refine ⟨a, c, es, css, rfl, relEs_cut hn.2 hes, h1, h2, h3, h4, ?_⟩
    cases tk with
    | none => trivial
    | full => exact h5
    | lit => exact h5
    | own t =>
      obtain ⟨e, he, h6⟩ := h5
      exact ⟨e, by simp only [G.cut, List.getElem?_take]; rw [if_pos (hn.1 t rfl)]; exact he, h6⟩
  | .eptr v, cs, hn, h => by
    simp only [AV.small] at hn
    simp only [relC] at h ⊢
    obtain ⟨b, o, cv, h1, h2, h3, h4⟩ := h
    exact ⟨b, o, cv, h1, relC_cut hn h2, h3, h4⟩
  | .agg ps, cs, hn, h => by
    simp only [AV.small] at hn
    simp only [relC] at h ⊢
    exact relPs_cut hn h
  | .iface t v, cs, hn, h => by
    simp only [AV.small] at hn
    simp only [relC] at h ⊢
    obtain ⟨x, h1, h2, h3⟩ := h
    exact ⟨x, h1, relC_cut hn h2, h3⟩
  | .fn f a b, cs, hn, h => by
    simp only [AV.small] at hn
    simp only [relC] at h ⊢
    obtain ⟨x, y, h1, h2, h3⟩ := h
    exact ⟨x, y, h1, relVs_cut hn.1 h2, relVs_cut hn.2 h3⟩
  | .tuple _, cs, hn, h => by simp [relC] at h
theorem relPs_cut {n m : Nat} : ∀ {ps : List AV} {cs : List Value}, AV.smalls n m ps → relPs g w ps cs → relPs (g.cut n m) w ps cs
  | [], cs, hn, h => by simp only [relPs] at h ⊢; exact h
  | p :: ps, cs, hn, h => by
    simp only [AV.smalls] at hn
    simp only [relPs] at h ⊢
    obtain ⟨c1, c2, h1, h2, h3⟩ := h
    exact ⟨c1, c2, h1, relC_cut hn.1 h2, relPs_cut hn.2 h3⟩
theorem relEs_cut {n m es : Nat} : ∀ {ps : List AV} {cs : List Value}, AV.smalls n m ps → relEs g w es ps cs → relEs (g.cut n m) w es ps cs
  | [], cs, hn, h => by simp only [relEs] at h ⊢; exact h
  | p :: ps, cs, hn, h => by
    simp only [AV.smalls] at hn
    simp only [relEs] at h ⊢
    obtain ⟨c1, c2, h1, h0, h2, h3⟩ := h
    exact ⟨c1, c2, h1, h0, relC_cut hn.1 h2, relEs_cut hn.2 h3⟩
theorem relVs_cut {n m : Nat} : ∀ {vs : List AV} {l : List Value}, AV.smalls n m vs → relVs g w vs l → relVs (g.cut n m) w vs l
  | [], l, hn, h => by simp only [relVs] at h ⊢; exact h
  | v :: vs, l, hn, h => by
    simp only [AV.smalls] at hn
    simp only [relVs] at h ⊢
    obtain ⟨x, r, h1, h2, h3, h4⟩ := h
    exact ⟨x, r, h1, relC_cut hn.1 h2, h3, relVs_cut hn.2 h4⟩
end

/-- Something was laid behind; nothing else has turned. -/
def Ext (σ σ' : AST) : Prop := ∃ O T, σ' = ⟨σ.objs ++ O, σ.toks ++ T⟩

theorem Ext.refl (σ : AST) : Ext σ σ := ⟨[], [], by simp⟩
theorem Ext.trans {a b c : AST} (h : Ext a b) (k : Ext b c) : Ext a c := by
  obtain ⟨O, T, rfl⟩ := h; obtain ⟨O', T', rfl⟩ := k; exact ⟨O ++ O', T ++ T', by simp⟩
theorem Ext.push (σ : AST) (o : AObj) : Ext σ (σ.push o) := ⟨[o], [], by simp [AST.push]⟩
theorem Ext.tok (σ : AST) (n es : Nat) : Ext σ (σ.tok n es) := ⟨[], [(n, es)], by simp [AST.tok]⟩
theorem Ext.setTok {σ σ' : AST} (h : Ext σ σ') {t n es : Nat} (ht : σ.toks.length ≤ t) : Ext σ (σ'.setTok t n es) := by
  obtain ⟨O, T, rfl⟩ := h
  exact ⟨O, T.set (t - σ.toks.length) (n, es), by simp only [AST.setTok]; rw [List.set_append]; simp [show ¬ t < σ.toks.length by omega]⟩
theorem Ext.set {σ σ' : AST} (h : Ext σ σ') {i : Nat} {o : AObj} (hi : σ.objs.length ≤ i) : Ext σ (σ'.set i o) := by
  obtain ⟨O, T, rfl⟩ := h
  exact ⟨O.set (i - σ.objs.length) o, T, by simp only [AST.set]; rw [List.set_append]; simp [show ¬ i < σ.objs.length by omega]⟩

theorem inv_cut (hI0 : Inv g σ w) (hE : Ev g w g' w') (hI : Inv g' σ' w') (hx : Ext σ σ') : Inv (g'.cut σ.objs.length σ.toks.length) σ w' ∧ Ev g w (g'.cut σ.objs.length σ.toks.length) w' := by
  obtain ⟨O, T, rfl⟩ := hx
  have hn := hI.nobj
  have ht := hI.ntok
  simp only [List.length_append] at hn ht
  have objs : ∀ {i : Nat} {o : AObj}, σ.objs[i]? = some o → (σ.objs ++ O)[i]? = some o ∧ ∀ x, g'.objs[i]? = some x → (g'.cut σ.objs.length σ.toks.length).objs[i]? = some x := by
    intro i o h
    have hlt := (List.getElem?_eq_some_iff.1 h).1
    exact ⟨by rw [List.getElem?_append_left hlt]; exact h, fun x hx => by simp [G.cut, List.getElem?_take, hlt, hx]⟩
  have uncut : ∀ {i : Nat} {x}, (g'.cut σ.objs.length σ.toks.length).objs[i]? = some x → g'.objs[i]? = some x := by
    intro i x h; simp only [G.cut, List.getElem?_take] at h; split at h
    · exact h
    · cases h
  have unt : ∀ {i : Nat} {x}, (g'.cut σ.objs.length σ.toks.length).toks[i]? = some x → g'.toks[i]? = some x ∧ i < σ.toks.length := by
    intro i x h; simp only [G.cut, List.getElem?_take] at h; split at h
    · rename_i hh; exact ⟨h, hh⟩
    · cases h
  constructor
  · refine ⟨hI.base, ?_, ?_, ?_, hI.rows, ?_, ?_, ?_⟩
    · simp [G.cut]; omega
    · intro i o ho hl
      obtain ⟨h1, h2⟩ := objs ho
      obtain ⟨b, sh, hg, hb, hlim, hin⟩ := hI.obj i o h1 hl
      refine ⟨b, sh, h2 _ hg, hb, hlim, ?_⟩
      obtain ⟨b0, sh0, hg0, hb0, hlim0, hin0⟩ := hI0.obj i o ho hl
      have hgl : g.objs.length = σ.objs.length := hI0.nobj.symm
      have htl : g.toks.length = σ.toks.length := hI0.ntok.symm
      cases o with
      | gone => trivial
      | pin l o vs xs =>
        refine ⟨hin.1, hin.2.1, fun i v x h1 h2 => ?_⟩
        rcases hin.2.2 i v x h1 h2 with h | ⟨a1, a2⟩
        · exact .inl h
        · rcases hin0.2.2 i v x h1 h2 with h | ⟨b1, b2⟩
          · exact .inl h
          · have s1 := relC_small b1
            rw [hgl, htl] at s1
            exact .inr ⟨relC_cut s1 a1, a2⟩
      | cells v =>
        obtain ⟨_, _, _, hr0, _⟩ := hin0
        obtain ⟨c, e, hc, hr, hs⟩ := hin
        have := relC_small hr0
        rw [hgl, htl] at this
        exact ⟨c, e, hc, relC_cut this hr, hs⟩
      | map es =>
        obtain ⟨me0, cl0, hm0, hl0, hes0, _⟩ := hin0
        obtain ⟨me, cl, hm, hl', hes, hinj⟩ := hin
        refine ⟨me, cl, hm, hl', fun i k v m hk hmm => ?_, hinj⟩
        have hi : i < es.length := (List.getElem?_eq_some_iff.1 hk).1
        obtain ⟨a1, a2, a3⟩ := hes i k v m hk hmm
        obtain ⟨b1, b2, b3⟩ := hes0 i k v me0[i] hk (by rw [Array.getElem?_eq_getElem (by omega)])
        have s1 := relC_small b1.1
        have s2 := relC_small b2.1
        rw [hgl, htl] at s1 s2
        exact ⟨⟨relC_cut s1 a1.1, a1.2⟩, ⟨relC_cut s2 a2.1, a2.2⟩, a3⟩
    · intro i j o o' b sh sh' hi hj hl hl' hgi hgj
      exact hI.inj i j o o' b sh sh' (objs hi).1 (objs hj).1 hl hl' (uncut hgi) (uncut hgj)
    · simp [G.cut]; omega
    · intro t e he
      obtain ⟨h1, h2⟩ := unt he
      obtain ⟨a, b⟩ := hI.tok t e h1
      refine ⟨by rw [← a]; simp [List.getElem?_append_left h2], b⟩
    · intro t u e e' b o o' h1 h2
      exact hI.tinj t u e e' b o o' (unt h1).1 (unt h2).1
  · refine ⟨hE.os, hE.tape, hE.output, hE.size, hE.base, hE.old, ?_, hE.lim, ?_⟩
    · intro i x h
      have := (List.getElem?_eq_some_iff.1 h).1
      have h2 := hI0.nobj
      simp only [G.cut, List.getElem?_take]; rw [if_pos (by omega)]; exact hE.objs i x h
    · intro t e h
      have := (List.getElem?_eq_some_iff.1 h).1
      have h2 := hI0.ntok
      obtain ⟨e', h3, h4⟩ := hE.toks t e h
      exact ⟨e', by simp only [G.cut, List.getElem?_take]; rw [if_pos (by omega)]; exact h3, h4⟩

/-- What is left behind and reached by nobody is forgotten. -/
theorem TCalls.drop {f : FuncId} {args : List AV} (h : TCalls P f args σ fun v σ' => Ext σ σ' ∧ v.noRef = true ∧ K v.strip σ) : TCalls P f args σ K :=
  ⟨h.1, fun g w xs hI hr => (h.2 g w xs hI hr).mono fun e w' ⟨x, g', v, σ', he, h1, h2, h3, h4, h5, h6⟩ =>
    ⟨x, _, v.strip, σ, he, (inv_cut hI h1 h2 h4).2, (inv_cut hI h1 h2 h4).1, relV_strip h5 h3, h6⟩⟩

/-! ### Appending -/

def canApp (σ : AST) (tk : Tk) (n es : Nat) : Prop := match tk with
  | .full => True
  | .own k => σ.toks[k]? = some (n, es)
  | .none | .lit => False
def growT (σ : AST) : Tk → Tk
  | .full => .own σ.toks.length
  | tk => tk
def growS (σ : AST) (tk : Tk) (n es : Nat) : AST := match tk with
  | .full => σ.tok n es
  | .own k => σ.setTok k n es
  | .none | .lit => σ

theorem growT_growS {σ : AST} {tk : Tk} {n es : Nat} : growT (growS σ tk n es) (growT σ tk) = growT σ tk := by
  cases tk <;> rfl
theorem growS_growS {σ : AST} {tk : Tk} {n m n0 es es0 : Nat} (h : canApp σ tk n0 es0) : growS (growS σ tk n es) (growT σ tk) m es = growS σ tk m es := by
  cases tk with
  | none => exact h.elim
  | lit => exact h.elim
  | full => simp [growS, growT, AST.setTok, AST.tok, List.set_append]
  | own k => simp [growS, growT, AST.setTok, List.set_set]
theorem canApp_grow {σ : AST} {tk : Tk} {n n0 es es0 : Nat} (h : canApp σ tk n0 es0) : canApp (growS σ tk n es) (growT σ tk) n es := by
  cases tk with
  | none => exact h.elim
  | lit => exact h.elim
  | full => simp [canApp, growS, growT, AST.tok]
  | own k =>
    have : k < σ.toks.length := (List.getElem?_eq_some_iff.1 h).1
    simp [canApp, growS, growT, AST.setTok, this]
theorem canFull {σ : AST} {n es : Nat} : canApp σ .full n es := trivial
theorem canGrow {σ : AST} {n es : Nat} : canApp (growS σ .full n es) (growT σ .full) n es := canApp_grow (n0 := 0) (es0 := 0) trivial
theorem growFull {σ : AST} {n m es : Nat} : growS (growS σ .full n es) (growT σ .full) m es = growS σ .full m es := growS_growS (n0 := 0) (es0 := 0) trivial
theorem Ext.grow {σ σ' : AST} (h : Ext σ σ') {tk : Tk} {n es : Nat} (ht : tk = .full ∨ ∃ k, tk = .own k ∧ σ.toks.length ≤ k) : Ext σ (growS σ' tk n es) := by
  rcases ht with rfl | ⟨k, rfl, hk⟩
  · exact h.trans (Ext.tok _ _ _)
  · exact h.setTok hk
/-- An owner that was not there at the beginning. -/
def tkNew (σ : AST) (tk : Tk) : Prop := tk = .full ∨ ∃ k, tk = .own k ∧ σ.toks.length ≤ k
theorem Ext.toks_le {σ σ' : AST} (h : Ext σ σ') : σ.toks.length ≤ σ'.toks.length := by obtain ⟨O, T, rfl⟩ := h; simp
theorem tkNew.grow {σ s : AST} {tk : Tk} (h : tkNew σ tk) (hx : Ext σ s) : tkNew σ (growT s tk) := by
  rcases h with rfl | ⟨k, rfl, hk⟩
  · exact .inr ⟨_, rfl, hx.toks_le⟩
  · exact .inr ⟨k, rfl, hk⟩
theorem Ext.growFull (σ : AST) (n es : Nat) : Ext σ (growS σ .full n es) := Ext.tok _ _ _

end Go.Aff
