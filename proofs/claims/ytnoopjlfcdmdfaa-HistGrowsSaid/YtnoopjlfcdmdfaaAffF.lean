/- What operations do, soundly (2). -/
import Derived.Test.YtnoopjlfcdmdfaaAffE
namespace Go.Aff
set_option linter.unusedVariables false
set_option linter.unusedSimpArgs false

variable {g g' : G} {w w' : World} {σ σ' : AST} {P : Program}

theorem store_does (hI : Inv g σ w) {t : TypeId} {a y : AV} {x z : Value} {K : AST → Prop} (ha : relV g w a x) (hy : relV g w y z) (h : storeW P σ t a y K) :
    DoesU P g w (Instr.storeAt t x z) K := by
  unfold storeW at h
  split at h
  · rename_i i p
    split at h
    · rename_i v hobj
      split at h
      · rename_i u hat
        obtain ⟨hs, hsh, hkn, hok, hK⟩ := h
        obtain ⟨b, sh, o, hg, ho, rfl⟩ := relV_ptr ha
        obtain ⟨_, _, c, e, hc, hr, hsv⟩ := obj_cells hI hobj hg
        obtain ⟨cu, hcu, hcell, hle⟩ := at_rel hr hat (hsv ▸ ho)
        obtain ⟨hz, hza⟩ := relV_known hy hkn
        have hlen : z.cells.size = y.size := by rw [← relC_size hz]; simp
        have hxu : y.size = u.size := shape_size hsh
        have hcul := relC_size hcu
        obtain ⟨d, hd⟩ := agg_under hs.1
        have hs := hs.2
        have hsz : (sizeOf t).run P w = .ok (P.cellsOf t) w := run_sizeOf' hd w
        have hst := run_storeCells_at P b o e z.cells.toList 0 c w hc (by simp; rw [hlen, hxu, ← hcul]; simpa using hle) (relC_cell1 hz)
        have hst' : (storeCells ⟨b, o, none⟩ z.cells.toList).run P w = .ok () (setBlk w b (.cells (splice c.toList o z.cells.toList).toArray e)) := by
          rw [hst, setRow_eq_setBlk _ hc]; simp [splice]
        have hrun : (Instr.storeAt t (.pointer (some ⟨b, o, none⟩)) z).run P w = .ok () (setBlk w b (.cells (splice c.toList o z.cells.toList).toArray e)) := by
          have : ¬ (z.cells.size ≠ P.cellsOf t) := by rw [hlen, hs]; simp
          simp only [Instr.storeAt, Instr.sureAddr, storeVar, Sem.run_bind, Sem.run_pure, Result.andThen_ok, hsz, this, if_false, hst', Sem.run_ite]
        have hE := ev_obj (o := .cells (splice c.toList o z.cells.toList).toArray e) hI (obj_cells hI hobj hg).1 (obj_cells hI hobj hg).2.1
        have hin : objIn g (setBlk w b (.cells (splice c.toList o z.cells.toList).toArray e)) b sh (.cells (v.setAt p y)) := by
          refine ⟨_, _, setBlk_same (lt_of_blk hc), ?_, by rw [setAt_shape hat hsh hok, hsv]⟩
          have := setAt_rel hr hat (hsv ▸ ho) hz hsh hok
          simpa using relC_mono hE this
        obtain ⟨hE', hI'⟩ := inv_setObj hI hobj rfl hg hin
        exact ⟨_, g, _, hrun, hE', hI', hK⟩
      · exact h.elim
    · exact h.elim
  · exact h.elim

theorem alloc_does (hI : Inv g σ w) {t : TypeId} {old : Value} {K : AV → AST → Prop} {z : AV} (hz : ZeroOf P t z) (h : K (.ptr (some (σ.objs.length, []))) (σ.push (.cells z))) :
    Does P g w (Instr.alloc t true old) K := by
  obtain ⟨i, zv, hi, hzv, hc, ha, hs⟩ := hz
  have hin : ∀ g', Ev g w g' (w.alloc (.cells zv.cells t)) → objIn g' (w.alloc (.cells zv.cells t)) w.heap.size z.shape (.cells z) :=
    fun g' _ => ⟨_, _, alloc_new, conc_rel _ _ hc, rfl⟩
  obtain ⟨hE, hI'⟩ := inv_push hI hin
  refine ⟨.pointer (some ⟨w.heap.size, 0, none⟩), w.alloc (.cells zv.cells t), _, .ptr (some (σ.objs.length, [])), σ.push (.cells z), ?_, hE, hI', relV_of ?_ rfl, h⟩
  · cases old <;> simp [Instr.alloc, zeroValue, typeInfo, hi, hzv, newVar, newRow]
  · simp only [relC, Value.cells]
    exact ⟨w.heap.size, z.shape, 0, by rw [hI.nobj]; simp, by cases z <;> simp [AV.shape, Shape.off], rfl⟩

theorem box_does (hI : Inv g σ w) {t : TypeId} {v : AV} {x : Value} {K : AV → AST → Prop} (hv : relV g w v x) (hk : v.known = true) (h : K (.ptr (some (σ.objs.length, []))) (σ.push (.cells v))) :
    Does P g w (Instr.box t x) K := by
  obtain ⟨hr, ha⟩ := relV_known hv hk
  have hin : ∀ g', Ev g w g' (w.alloc (.cells x.cells t)) → objIn g' (w.alloc (.cells x.cells t)) w.heap.size v.shape (.cells v) :=
    fun g' hE => ⟨_, _, alloc_new, relC_mono hE hr, rfl⟩
  obtain ⟨hE, hI'⟩ := inv_push hI hin
  refine ⟨.pointer (some ⟨w.heap.size, 0, none⟩), w.alloc (.cells x.cells t), _, .ptr (some (σ.objs.length, [])), σ.push (.cells v), ?_, hE, hI', relV_of ?_ rfl, h⟩
  · simp [Instr.box, newVar, newRow]
  · simp only [relC, Value.cells]
    exact ⟨w.heap.size, v.shape, 0, by rw [hI.nobj]; simp, by cases v <;> simp [AV.shape, Shape.off], rfl⟩

/-! ### Parts -/

theorem fits_under {t : TypeId} {v : AV} (h : fits P t v) : ∃ d, P.underlying t = some d := agg_under h.1

/-- A part of an aggregate is taken. -/
theorem run_part {T : TypeId} {ps : List AV} {cs : Array Value} {i : Nat} {v : AV} (hr : relPs g w ps cs.toList) (hi : ps[i]? = some v) (hf : fits P T v) :
    ∃ y, (part T cs (AV.sizes (ps.take i))).run P w = .ok y w ∧ relV g w v y := by
  obtain ⟨cv, hcv, hcell, hle⟩ := relPs_nth hr hi
  obtain ⟨d, hd⟩ := fits_under hf
  obtain ⟨ha, hs⟩ := hf
  have hlen := relC_size hcv
  cases hg : v.isAgg with
  | true =>
    rw [hg] at ha
    refine ⟨.agg cv.toArray, ?_, relV_of (by simpa [Value.cells] using hcv) hg⟩
    have e : cs.extract (AV.sizes (ps.take i)) (AV.sizes (ps.take i) + P.cellsOf T) = cv.toArray := by
      apply Array.ext_getElem?
      intro j
      rw [Array.getElem?_extract]
      simp only [Array.length_toList] at hle
      rw [hs, ← hlen]
      split
      · rename_i hj
        have h1 := hcell j (by omega)
        simp at h1; rw [h1]; simp
      · rename_i hj
        have hj' : cv.length ≤ j := by omega
        simp [List.getElem?_eq_none hj']
    simp [part, run_isAgg' ha, run_sizeOf' hd, e]
  | false =>
    rw [hg] at ha
    obtain ⟨x, rfl⟩ := relC_scalar hcv hg
    have h1 := relC_cell1 hcv x (by simp)
    have h0 := hcell 0 (by simp)
    simp at h0
    refine ⟨x, ?_, relV_of ?_ ?_⟩
    · simp [part, run_isAgg' ha, h0]
    · rw [cells_one (vAgg_one h1)]; exact hcv
    · rw [hg, vAgg_one h1]

theorem field_does (hI : Inv g σ w) {t : TypeId} {i : Nat} {a : AV} {x : Value} {K : AV → AST → Prop} (ha : relV g w a x) (hst : ∃ fs, P.underlying t = some (.struct fs)) (h : fieldW P t a i (fun v => K v σ)) :
    Does P g w (Instr.field t x i) K := by
  obtain ⟨fs, hfs⟩ := hst
  unfold fieldW at h
  split at h
  · rename_i ps
    split at h
    · rename_i v hv
      obtain ⟨⟨T, hT, hf⟩, hK⟩ := h
      simp only [placeOf, hfs, Option.map_eq_some_iff] at hT
      obtain ⟨f, hf1, hf2⟩ := hT
      simp only [Prod.mk.injEq] at hf2
      obtain ⟨cs, rfl, hr⟩ := relV_agg ha rfl
      simp only [relC] at hr
      obtain ⟨y, hy, hv'⟩ := run_part hr hv hf
      exact Does.pure hI (by simp [Instr.field, run_underlying hfs, hf1, asAgg, hf2.1, hf2.2, hy]) hv' hK
    · exact h.elim
  · exact h.elim

theorem extract_does (hI : Inv g σ w) {i : Nat} {vs : List AV} {v : AV} {x : Value} {K : AV → AST → Prop} (ha : relV g w (.tuple vs) x) (hi : vs[i]? = some v) (h : K v σ) : Does P g w (Instr.extract x i) K := by
  obtain ⟨a, rfl, hr⟩ := relV_tuple ha
  have nth : ∀ {vs : List AV} {l : List Value} {i : Nat} {v : AV}, relVs g w vs l → vs[i]? = some v → ∃ y, l[i]? = some y ∧ relC g w v y.cells.toList ∧ v.isAgg = vAgg y := by
    intro vs
    induction vs with
    | nil => intro l i v _ h; simp at h
    | cons u us ih =>
      intro l i v hr hi
      simp only [relVs] at hr
      obtain ⟨y, r, rfl, h1, h2, h3⟩ := hr
      cases i with
      | zero => simp at hi; subst hi; exact ⟨y, rfl, h1, h2⟩
      | succ i => simp at hi ⊢; exact ih h3 hi
  obtain ⟨y, hy, h1, h2⟩ := nth hr hi
  refine Does.pure hI (v := v) (x := y) ?_ (relV_of h1 h2) h
  simp at hy
  simp [Instr.extract, hy]

end Go.Aff
