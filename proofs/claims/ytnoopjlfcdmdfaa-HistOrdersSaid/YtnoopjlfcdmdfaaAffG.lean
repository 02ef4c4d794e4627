/- What operations do, soundly (3): places inside objects, arrays, strings, literals. -/
import Derived.Test.YtnoopjlfcdmdfaaAffF
namespace Go.Aff
set_option linter.unusedVariables false
set_option linter.unusedSimpArgs false

variable {g g' : G} {w w' : World} {σ σ' : AST} {P : Program}

theorem mk_add (b o n : Nat) : (⟨b, o, none⟩ : Addr).add n = ⟨b, o + n, none⟩ := by unfold Addr.add; split <;> simp_all

theorem off_snoc : ∀ {p : List Nat} {v : AV} {ps : List AV} {i o : Nat}, v.at p = some (.agg ps) → i < ps.length → v.shape.off p = some o →
    v.shape.off (p ++ [i]) = some (o + AV.sizes (ps.take i))
  | [], v, ps, i, o, h, hi, ho => by
    have h1 : v = .agg ps := by rw [at_nil] at h; exact Option.some.inj h
    subst h1
    simp [AV.shape, Shape.off] at ho; subst ho
    simp [AV.shape, Shape.off, shapes_get, hi, sizes_take]
  | k :: p, .agg qs, ps, i, o, h, hi, ho => by
    simp only [AV.at, Option.bind_eq_some_iff] at h
    obtain ⟨x, hx, h⟩ := h
    simp only [AV.shape, Shape.off, shapes_get, hx, Option.map_some, Option.bind_some, Option.map_eq_some_iff, sizes_take] at ho
    obtain ⟨o', ho', rfl⟩ := ho
    have ih := off_snoc h hi ho'
    simp only [List.cons_append, AV.shape, Shape.off, shapes_get, hx, Option.map_some, Option.bind_some, ih, sizes_take, Option.some.injEq]; omega
  | [k], .dig d, ps, i, o, h, hi, ho => by simp [AV.at] at h
  | k :: l :: p, .dig d, ps, i, o, h, hi, ho => by simp [AV.at] at h
  | k :: p, .undef, _, _, _, h, _, _ | k :: p, .bool _, _, _, _, h, _, _ | k :: p, .int _ _, _, _, _, h, _, _ | k :: p, .str _, _, _, _, h, _, _ | k :: p, .ptr _, _, _, _, h, _, _ | k :: p, .slice _ _, _, _, _, h, _, _ | k :: p, .eptr _, _, _, _, h, _, _
  | k :: p, .mp _, _, _, _, h, _, _ | k :: p, .fn _ _ _, _, _, _, h, _, _ | k :: p, .nilFn, _, _, _, h, _, _ | k :: p, .tuple _, _, _, _, h, _, _ | k :: p, .iface _ _, _, _, _, h, _, _ | k :: p, .nilIface, _, _, _, h, _, _ => by simp [AV.at] at h

theorem off_snoc_dig : ∀ {p : List Nat} {v : AV} {d : Dig} {i o : Nat}, v.at p = some (.dig d) → i < 32 → v.shape.off p = some o →
    v.shape.off (p ++ [i]) = some (o + i)
  | [], v, d, i, o, h, hi, ho => by
    have h1 : v = .dig d := by rw [at_nil] at h; exact Option.some.inj h
    subst h1
    simp [AV.shape, Shape.off] at ho; subst ho
    simp [AV.shape, Shape.off, hi]
  | k :: p, .agg qs, d, i, o, h, hi, ho => by
    simp only [AV.at, Option.bind_eq_some_iff] at h
    obtain ⟨x, hx, h⟩ := h
    simp only [AV.shape, Shape.off, shapes_get, hx, Option.map_some, Option.bind_some, Option.map_eq_some_iff, sizes_take] at ho
    obtain ⟨o', ho', rfl⟩ := ho
    have ih := off_snoc_dig h hi ho'
    simp only [List.cons_append, AV.shape, Shape.off, shapes_get, hx, Option.map_some, Option.bind_some, ih, sizes_take, Option.some.injEq]; omega
  | [k], .dig d', d, i, o, h, hi, ho => by simp [AV.at] at h
  | k :: l :: p, .dig d', d, i, o, h, hi, ho => by simp [AV.at] at h
  | k :: p, .undef, _, _, _, h, _, _ | k :: p, .bool _, _, _, _, h, _, _ | k :: p, .int _ _, _, _, _, h, _, _ | k :: p, .str _, _, _, _, h, _, _ | k :: p, .ptr _, _, _, _, h, _, _ | k :: p, .slice _ _, _, _, _, h, _, _ | k :: p, .eptr _, _, _, _, h, _, _
  | k :: p, .mp _, _, _, _, h, _, _ | k :: p, .fn _ _ _, _, _, _, h, _, _ | k :: p, .nilFn, _, _, _, h, _, _ | k :: p, .tuple _, _, _, _, h, _, _ | k :: p, .iface _ _, _, _, _, h, _, _ | k :: p, .nilIface, _, _, _, h, _, _ => by simp [AV.at] at h

/-- A part of what an element pointer shows. -/
theorem eptr_part {b o : Nat} {ps : List AV} {cv : List Value} {i : Nat} {x : AV} (hv : relC g w (.agg ps) cv) (hr : rd w b o cv) (hb : g.below b (o + cv.length)) (hi : ps[i]? = some x) :
    relV g w (.eptr x) (.pointer (some ⟨b, o + AV.sizes (ps.take i), none⟩)) := by
  simp only [relC] at hv
  obtain ⟨cx, hx, hcell, hle⟩ := relPs_nth hv hi
  refine relV_of ?_ rfl
  simp only [relC, Value.cells]
  obtain ⟨c, e, fr, hc, hk⟩ := hr
  refine ⟨b, _, cx, rfl, hx, ⟨c, e, fr, hc, fun j hj => ?_⟩, ?_⟩
  · rw [← hcell j hj, ← hk _ (by omega)]; congr 1; omega
  · rcases hb with hb | ⟨L, hL, hl⟩
    · exact .inl hb
    · exact .inr ⟨L, hL, by omega⟩

theorem fieldAddr_does (hI : Inv g σ w) {t : TypeId} {i : Nat} {a : AV} {x : Value} {K : AV → AST → Prop} (ha : relV g w a x) (hst : ∃ fs, P.underlying t = some (.struct fs))
    (h : fieldAddrW P σ t a i (fun v => K v σ)) : Does P g w (Instr.fieldAt t x i) K := by
  obtain ⟨fs, hfs⟩ := hst
  have place : ∀ {ps : List AV} {v : AV}, partIs P t ps i v → 0 < v.size → ∃ f, fs[i]? = some f ∧ ∀ (b o : Nat), (fieldPlace ⟨b, o, none⟩ f).run P w = .ok ⟨b, o + AV.sizes (ps.take i), none⟩ w := by
    rintro ps v ⟨T, hT, hf⟩ hpos
    simp only [placeOf, hfs, Option.map_eq_some_iff, Prod.mk.injEq] at hT
    obtain ⟨f, hf1, hf2, hf3⟩ := hT
    obtain ⟨d, hd⟩ := fits_under hf
    refine ⟨f, hf1, fun b o => ?_⟩
    have hne : ¬ (P.cellsOf T = 0) := by rw [hf.2]; omega
    simp [fieldPlace, hf3, run_sizeOf' hd, hne, hf2, mk_add]
  unfold fieldAddrW at h
  split at h
  · rename_i j p
    split at h
    · rename_i v hobj
      split at h
      · rename_i ps hat
        split at h
        · rename_i y hy
          obtain ⟨hp, hpos, hK⟩ := h
          obtain ⟨f, hf1, hf2⟩ := place hp hpos
          obtain ⟨b, sh, o, hg, ho, rfl⟩ := relV_ptr ha
          obtain ⟨_, _, c, e, hc, hr, hs⟩ := obj_cells hI hobj hg
          refine Does.pure hI (x := .pointer (some ⟨b, o + AV.sizes (ps.take i), none⟩)) (by simp [Instr.fieldAt, run_underlying hfs, hf1, Instr.sureAddr, hf2]) (relV_of ?_ rfl) hK
          simp only [relC, Value.cells]
          refine ⟨b, sh, _, hg, ?_, rfl⟩
          rw [← hs] at ho ⊢
          exact off_snoc hat (List.getElem?_eq_some_iff.1 hy).1 ho
        · exact h.elim
      · exact h.elim
    · exact h.elim
  · rename_i ps
    split at h
    · rename_i y hy
      obtain ⟨hp, hpos, hK⟩ := h
      obtain ⟨f, hf1, hf2⟩ := place hp hpos
      obtain ⟨b, o, cv, rfl, hv, hr, hb⟩ := relV_eptr ha
      exact Does.pure hI (by simp [Instr.fieldAt, run_underlying hfs, hf1, Instr.sureAddr, hf2]) (eptr_part hv hr hb hy) hK
    · exact h.elim
  · exact h.elim

theorem sizes_const {ps : List AV} {s : Nat} : ∀ {i : Nat}, (∀ (j : Nat) v, ps[j]? = some v → v.size = s) → i ≤ ps.length → AV.sizes (ps.take i) = i * s := by
  induction ps with
  | nil => intro i _ h; simp at h; subst h; simp [AV.sizes]
  | cons p ps ih =>
    intro i h hi
    cases i with
    | zero => simp [AV.sizes]
    | succ i =>
      simp only [List.take_succ_cons, AV.sizes]
      rw [h 0 p rfl, ih (fun j v hj => h (j + 1) v (by simpa using hj)) (by simpa using hi), Nat.add_mul]; omega

theorem index_does (hI : Inv g σ w) {t : TypeId} {a i : AV} {x y : Value} {K : AV → AST → Prop} (ha : relV g w a x) (hi : relV g w i y) (h : indexW P t a i (fun v => K v σ)) :
    Does P g w (Instr.index t x y) K := by
  unfold indexW at h
  split at h
  · rename_i k n
    obtain rfl := relV_int hi
    split at h
    · rename_i s
      obtain ⟨hu, h0, h1, hK⟩ := h
      obtain ⟨rfl, _⟩ := relV_str ha
      have hlt : n.toNat < s.length := by omega
      have hb := hK s[n.toNat] (List.getElem?_eq_getElem hlt)
      refine Does.pure hI (v := .int .u8 s[n.toNat].toNat) (x := .int .u8 s[n.toNat].toNat) ?_ (relV_mkInt _ _) hb
      have e : (⟨s.toArray⟩ : ByteArray)[n.toNat]? = some s[n.toNat] := by
        show (if h : n.toNat < (⟨s.toArray⟩ : ByteArray).size then some _ else none) = _
        have hsz : (⟨s.toArray⟩ : ByteArray).size = s.length := by show s.toArray.size = _; simp
        rw [dif_pos (by rw [hsz]; exact hlt)]
        rfl
      simp [Instr.index, asIntOf, run_underlying hu, h0, e]
    · rename_i d
      obtain ⟨⟨e, hu, hf⟩, h0, h1, hK⟩ := h
      obtain ⟨cs, rfl, hr⟩ := relV_agg ha rfl
      have hlt : n.toNat < d.l.length := by omega
      have hb := hK d.l[n.toNat] (List.getElem?_eq_getElem hlt)
      obtain ⟨dd, hd⟩ := fits_under hf
      have h1' : n < ((32 : Nat) : Int) := by rw [d.h] at h1; exact_mod_cast h1
      simp only [relC] at hr
      have hcell : cs[n.toNat]? = some (.int .u8 d.l[n.toNat].toNat) := by
        rw [← Array.getElem?_toList, hr]; simp [hlt]
      have hsz : P.cellsOf e = 1 := hf.2
      have hag : aggT P e = some false := hf.1
      refine Does.pure hI (v := .int .u8 d.l[n.toNat].toNat) (x := .int .u8 d.l[n.toNat].toNat) ?_ (relV_mkInt _ _) hb
      simp [Instr.index, asIntOf, run_underlying hu, h0, h1', run_sizeOf' hd, hsz, part, run_isAgg' hag, hcell]
      omega
    · rename_i ps
      obtain ⟨h0, h1, hK⟩ := h
      have hlt : n.toNat < ps.length := by omega
      obtain ⟨⟨T, hT, hf⟩, ⟨e, hu⟩, hk⟩ := hK _ (List.getElem?_eq_getElem hlt)
      obtain ⟨cs, rfl, hr⟩ := relV_agg ha rfl
      simp only [relC] at hr
      simp only [placeOf, hu] at hT
      rw [if_pos hlt] at hT
      simp only [Option.some.injEq, Prod.mk.injEq] at hT
      obtain ⟨hT1, rfl⟩ := hT
      obtain ⟨dd, hd⟩ := fits_under hf
      obtain ⟨z, hz, hv⟩ := run_part (P := P) hr (List.getElem?_eq_getElem hlt) hf
      refine Does.pure hI ?_ hv hk
      have h1' : n < (ps.length : Int) := h1
      simp only [Instr.index, asIntOf, Sem.run_bind, Sem.run_pure, Result.andThen_ok, run_underlying hu, h0, h1', and_self, if_true, run_sizeOf' hd, hT1]
      exact hz
    · exact h.elim
  · exact h.elim

end Go.Aff
