import Derived.Shelf.Sort.Plain
import Derived.Shelf.Slices.In.SortNone
import Derived.Test.YtjhldllkjmlabaaProg
import Derived.Test.YtjhldllkjmlabaaG17
import Derived.Sort.Grow
import Derived.Test.YtjhldllkjmlabaaG26

set_option linter.unusedSimpArgs false
set_option linter.unusedVariables false

/- Layer 11: the library's sort at this program (laid by the kit's tool). -/
namespace Go.Proofs
open Go.Shelf
def Try.lays189_ren : Go.Shelf.Ren := ⟨fun | 189 => 25 | 125 => 27 | 257 => 26 | 128 => 37 | 129 => 38 | 294 => 28 | 295 => 29 | 296 => 30 | 297 => 31 | 298 => 32 | 299 => 33 | 216 => 34 | 300 => 35 | 301 => 36 | 328 => 39 | 329 => 40 | 330 => 41 | 331 => 42 | 332 => 43 | 215 => 44 | 343 => 45 | n => n, fun | 28 => 37 | 3 => 3 | 46 => 66 | 0 => 0 | 51 => 77 | 53 => 79 | 4 => 4 | 183 => 69 | 182 => 68 | 131 => 74 | 5 => 5 | 9 => 9 | 218 => 80 | 222 => 84 | 228 => 87 | 229 => 49 | n => n, fun | n => n⟩
theorem Try.lays189 : Go.Proofs.Lays.n189 Try.prog Try.lays189_ren := {
  mixed := by kernel_rfl
  f125 := Try.func27.trans (congrArg some (by kernel_rfl))
  f128 := Try.func37.trans (congrArg some (by kernel_rfl))
  f129 := Try.func38.trans (congrArg some (by kernel_rfl))
  f189 := Try.func25.trans (congrArg some (by kernel_rfl))
  f215 := Try.func44.trans (congrArg some (by kernel_rfl))
  f216 := Try.func34.trans (congrArg some (by kernel_rfl))
  f257 := Try.func26.trans (congrArg some (by kernel_rfl))
  f294 := Try.func28.trans (congrArg some (by kernel_rfl))
  f295 := Try.func29.trans (congrArg some (by kernel_rfl))
  f296 := Try.func30.trans (congrArg some (by kernel_rfl))
  f297 := Try.func31.trans (congrArg some (by kernel_rfl))
  f298 := Try.func32.trans (congrArg some (by kernel_rfl))
  f299 := Try.func33.trans (congrArg some (by kernel_rfl))
  f300 := Try.func35.trans (congrArg some (by kernel_rfl))
  f301 := Try.func36.trans (congrArg some (by kernel_rfl))
  f328 := Try.func39.trans (congrArg some (by kernel_rfl))
  f329 := Try.func40.trans (congrArg some (by kernel_rfl))
  f330 := Try.func41.trans (congrArg some (by kernel_rfl))
  f331 := Try.func42.trans (congrArg some (by kernel_rfl))
  f332 := Try.func43.trans (congrArg some (by kernel_rfl))
  f343 := Try.func45.trans (congrArg some (by kernel_rfl))
  t0 := Try.underlying0
  a0 := Try.isAgg0
  z0 := Try.sizeOf0
  v0 := Try.zeroValue0
  t3 := Try.underlying3
  a3 := Try.isAgg3
  z3 := Try.sizeOf3
  v3 := Try.zeroValue3
  t4 := Try.underlying4
  a4 := Try.isAgg4
  z4 := Try.sizeOf4
  v4 := Try.zeroValue4
  t5 := Try.underlying5
  a5 := Try.isAgg5
  z5 := Try.sizeOf5
  v5 := Try.zeroValue5
  t9 := Try.underlying9
  a9 := Try.isAgg9
  z9 := Try.sizeOf9
  v9 := Try.zeroValue9
  t28 := Try.underlying37
  a28 := Try.isAgg37
  z28 := Try.sizeOf37
  v28 := Try.zeroValue37
  t46 := Try.underlying66
  a46 := Try.isAgg66
  z46 := Try.sizeOf66
  v46 := Try.zeroValue66
  t51 := Try.underlying77
  a51 := Try.isAgg77
  z51 := Try.sizeOf77
  v51 := Try.zeroValue77
  t53 := Try.underlying79
  a53 := Try.isAgg79
  z53 := Try.sizeOf79
  v53 := Try.zeroValue79
  t131 := Try.underlying74
  a131 := Try.isAgg74
  z131 := Try.sizeOf74
  v131 := Try.zeroValue74
  t182 := Try.underlying68
  a182 := Try.isAgg68
  z182 := Try.sizeOf68
  v182 := Try.zeroValue68
  t183 := Try.underlying69
  a183 := Try.isAgg69
  z183 := Try.sizeOf69
  v183 := Try.zeroValue69
  t218 := Try.underlying80
  a218 := Try.isAgg80
  z218 := Try.sizeOf80
  v218 := Try.zeroValue80
  t222 := Try.underlying84
  a222 := Try.isAgg84
  z222 := Try.sizeOf84
  v222 := Try.zeroValue84
  t228 := Try.underlying87
  a228 := Try.isAgg87
  z228 := Try.sizeOf87
  v228 := Try.zeroValue87
  t229 := Try.underlying49
  a229 := Try.isAgg49
  z229 := Try.sizeOf49
  v229 := Try.zeroValue49 }
open Go.Sort Go.RowKit in
theorem Try.slices_Sort_int (blk off cap : Nat) (zs : List Int) (w : World) (hH : Holds (Value.int .i64) w blk off zs.toArray) (hblk : blk < w.heap.size) (hsz : zs.length < 4611686018427387904) :
    Calls Try.prog 25 #[.slice (some ⟨blk, off, none⟩) zs.length cap] w fun e w' =>
      e = .returned (.tuple #[]) ∧ ∃ n os, w' = grow (putRow (Value.int .i64) (Sort.ahead w n) blk off (zs.mergeSort fun x y => decide (x ≤ y)).toArray) os := Any.slices_Sort_int Try.lays189 blk off cap zs w hH hblk hsz
open Go.RowKit Go.Sort in
/-- .. and plain. (LAID: no walk: one application.) -/
theorem Try.slices_Sort_int_none (p : Option Addr) (cap : Nat) (w : World) :
    Calls Try.prog 25 #[.slice p 0 cap] w fun e w' => e = .returned (.tuple #[]) ∧ w' = w := Any.slices_Sort_int_none Try.lays189 p cap w
end Go.Proofs

/- Rows held as they stand: a slice that is built by appends, sorted, and then handed out. -/
namespace Go.Aff
set_option linter.unusedVariables false
set_option linter.unusedSimpArgs false

variable {g g' : G} {w w' : World} {σ σ' : AST} {P : Program}

def G.freeze (g : G) (b n : Nat) : G := { g with lim := fun x => if x = b then some n else g.lim x }

theorem inv_freeze (hI : Inv g σ w) {b n : Nat} (hb : g.base ≤ b) (hl : g.lim b = none) (hne : ∀ (j : Nat) o b' sh, σ.objs[j]? = some o → o.live = true → g.objs[j]? = some (b', sh) → b' ≠ b)
    (hrow : ∃ c e fr, w.heap[b]? = some (.cells c e fr) ∧ n ≤ c.size ∧ (fr.1 = fr.2 ∨ c.size ≤ fr.1)) : Inv (g.freeze b n) σ w ∧ Ev g w (g.freeze b n) w := by
  have hE : Ev g w (g.freeze b n) w := by
    refine ⟨rfl, rfl, rfl, Nat.le_refl _, rfl, fun _ _ => rfl, fun _ _ h => h, fun x L hx => ⟨⟨L, ?_, Nat.le_refl _⟩, fun c e fr h => ⟨c, e, fr, h, fun _ _ => rfl⟩⟩, fun t e h => ⟨e, h, rfl, Nat.le_refl _, fun _ => rfl, .inl rfl⟩⟩
    have : x ≠ b := by rintro rfl; rw [hl] at hx; cases hx
    simp [G.freeze, this, hx]
  refine ⟨⟨hI.base, hI.nobj, ?_, hI.inj, ?_, hI.ntok, ?_, hI.tinj⟩, hE⟩
  · intro j o ho hlv
    obtain ⟨b', sh, h1, h2, h3, h4⟩ := hI.obj j o ho hlv
    have := hne j o b' sh ho hlv h1
    exact ⟨b', sh, h1, h2, by simp [G.freeze, this, h3], objIn_mono hE rfl h4⟩
  · intro x L hx
    by_cases e : x = b
    · subst e
      simp [G.freeze] at hx; subst hx
      exact ⟨hb, hrow⟩
    · simp [G.freeze, e] at hx
      exact hI.rows x L hx
  · intro t e he
    obtain ⟨a1, a2, a3, a4, a5⟩ := hI.tok t e he
    refine ⟨a1, a2, a3, a4, fun x o hx hlt => ?_⟩
    obtain ⟨c1, c2⟩ := a5 x o hx hlt
    have : x ≠ b := by rintro rfl; rw [hl] at c1; cases c1
    exact ⟨by simp [G.freeze, this, c1], c2⟩

/-- The slice v holds the numbers xs, and its row is nobody else's: it was made since σ0. -/
def Lit (σ0 σ : AST) (e : TypeId) (v : AV) (xs : List Int) : Prop :=
  (xs = [] ∧ v = .slice .full []) ∨
  ∃ b c i cs, v = .lit (.slice (some ⟨b, 0, none⟩) xs.length c) ∧ σ0.objs.length ≤ i ∧ σ.objs[i]? = some (.pin b (.cells cs e) [] []) ∧ cs.size = c ∧ c ≤ maxL ∧ xs.length ≤ c ∧
    ∀ (j : Nat) x, xs[j]? = some x → cs[j]? = some (.int .i64 x)

def isRow : AObj → Bool
  | .pin _ (.cells _ _ _) _ _ => true
  | _ => false

theorem Lit.nil {σ0 σ : AST} {e : TypeId} : Lit σ0 σ e (.slice .full []) [] := .inl ⟨rfl, rfl⟩

/-- Whatever turns but rows leaves it as it is. -/
theorem Lit.keep {σ0 σ σ' : AST} {e : TypeId} {v : AV} {xs : List Int} (h : Lit σ0 σ e v xs) (hk : ∀ (j : Nat) o, σ.objs[j]? = some o → isRow o = true → σ'.objs[j]? = some o) : Lit σ0 σ' e v xs := by
  rcases h with h | ⟨b, c, i, cs, h1, h2, h3, h4⟩
  · exact .inl h
  · exact .inr ⟨b, c, i, cs, h1, h2, hk _ _ h3 rfl, h4⟩

theorem append_lit {σ0 σ : AST} {t u e b : Nat} (E : ElemT P t e 1 b) (hz : ∃ z, ZeroOf P e z ∧ z.size = 1) {tk2 : Tk} {v : AV} {xs : List Int} {y : Int} {K : AV → AST → Prop} (hu : isSliceT P u = true) (hx : Ext σ0 σ) (hv : Lit σ0 σ e v xs)
    (hl : (xs.length + 1) * b ≤ 140737488355328) (hm : xs.length + 1 ≤ maxL)
    (hK : ∀ v' σ', Ext σ0 σ' → Lit σ0 σ' e v' (xs ++ [y]) → (∀ (j : Nat) o, σ.objs[j]? = some o → isRow o = false → σ'.objs[j]? = some o) → σ'.toks = σ.toks → K v' σ') :
    appendW P ⟨[t, u]⟩ v (.slice tk2 [.int .i64 y]) σ K := by
  refine .inr ⟨t, u, e, y, rfl, rfl, E.hu, by simp [elemsOf, isSliceT_iff hu], hz, ?_⟩
  have hnew : ∀ (b c : Nat) (cs : Array Value), (∀ (j : Nat) x, xs[j]? = some x → cs[j]? = some (.int .i64 x)) → cs[xs.length]? = some (.int .i64 y) → cs.size = c → xs.length + 1 ≤ c → c ≤ maxL →
      K (.lit (.slice (some ⟨b, 0, none⟩) (xs.length + 1) c)) (σ.push (.pin b (.cells cs e) [] [])) := by
    intro b c cs hold hy hsz hle hcm
    refine hK _ _ (hx.trans (Ext.push _ _)) (.inr ⟨b, c, σ.objs.length, cs, by simp, ?_, by simp [AST.push], hsz, hcm, by simp; omega, ?_⟩) ?_ rfl
    · obtain ⟨O, T, rfl⟩ := hx; simp
    · intro j x hj
      rw [List.getElem?_append] at hj
      split at hj
      · exact hold j x hj
      · rename_i hlt
        have : j - xs.length = 0 := by
          by_cases e : j - xs.length = 0
          · exact e
          · rw [List.getElem?_eq_none (by simp; omega)] at hj; cases hj
        rw [this] at hj
        simp at hj; subst hj
        have : j = xs.length := by omega
        rw [this]; exact hy
    · intro j o ho _
      simp only [AST.push]
      exact getElem?_append_some ho
  rcases hv with ⟨rfl, rfl⟩ | ⟨b0, c, i, cs, rfl, h2, h3, h4, h5, h6, h7⟩
  · refine ⟨rfl, by rw [E.hb]; simpa using hl, fun b' c cs h1 h2 h3 h4 => ?_⟩
    exact hnew b' c cs (by simp) (by simpa using h1) h2 (by simpa using h3) h4
  · refine ⟨i, cs, rfl, rfl, h3, h4, h6, h5, by rw [E.hb]; exact hl, hm, fun hlt => ?_, fun b' c' cs' a1 a2 a3 a4 a5 => ?_⟩
    · refine hK _ _ (hx.set h2) (.inr ⟨b0, c, i, cs.setIfInBounds xs.length (.int .i64 y), by simp, h2, by simp [AST.set, (List.getElem?_eq_some_iff.1 h3).1], by simpa using h4, h5, by simp; omega, ?_⟩) ?_ rfl
      · intro j x hj
        rw [List.getElem?_append] at hj
        split at hj
        · rename_i hlt2
          rw [Array.getElem?_setIfInBounds, if_neg (by omega)]; exact h7 j x hj
        · rename_i hlt2
          have : j - xs.length = 0 := by
            by_cases e : j - xs.length = 0
            · exact e
            · rw [List.getElem?_eq_none (by simp; omega)] at hj; cases hj
          rw [this] at hj
          simp at hj; subst hj
          have : j = xs.length := by omega
          rw [this, Array.getElem?_setIfInBounds, if_pos rfl, if_pos (by omega)]
      · intro j o ho hr
        by_cases e : j = i
        · subst e; rw [h3] at ho; cases ho; cases hr
        · simp only [AST.set]; rw [List.getElem?_set, if_neg (fun h => e h.symm)]; exact ho
    · refine hnew b' c' cs' (fun j x hj => ?_) a2 a3 a4 a5
      rw [a1 j (List.getElem?_eq_some_iff.1 hj).1]; exact h7 j x hj

theorem relEs_ints {g : G} {w : World} : ∀ {xs : List Int}, relEs g w 1 (xs.map fun x => AV.int .i64 x) (xs.map fun x => Value.int .i64 x)
  | [] => by simp [relEs]
  | x :: r => by
    simp only [List.map_cons, relEs]
    exact ⟨[.int .i64 x], _, rfl, rfl, by simp [relC], relEs_ints⟩

/-- A row that nobody has seen is handed out: from there on nobody writes it. -/
theorem TCalls.freeze {f : FuncId} {args : List AV} {σ : AST} {e : TypeId} {xs : List Int} {K : AV → AST → Prop} (h : TCalls P f args σ fun v σ' => Ext σ σ' ∧ Lit σ σ' e v xs) (hK : K (.slice .none (xs.map fun x => .int .i64 x)) σ) : TCalls P f args σ K := by
  refine ⟨h.1, fun g w ys hI hr => (h.2 g w ys hI hr).mono fun ex w' ⟨x, g', v, σ', he, hE, hI', h3, hx, hv⟩ => ?_⟩
  obtain ⟨hIc, hEc⟩ := inv_cut hI hE hI' hx
  rcases hv with ⟨rfl, rfl⟩ | ⟨b, c, i, cs, rfl, h2, hp, h4, h5, h6, h7⟩
  · refine ⟨x, _, _, σ, he, hEc, hIc, ?_, hK⟩
    have := relV_strip (n := σ.objs.length) (m := σ.toks.length) (by rfl) h3
    rcases this with h | ⟨_, _, h, _⟩ | ⟨h, hag⟩
    · simp [AV.strip] at h
    · simp [AV.strip] at h
    · refine .inr (.inr ⟨?_, hag⟩)
      simp only [AV.strip] at h
      simp only [relC] at h ⊢
      obtain ⟨ad, a, c, es, css, h1, h2, h3, h4, h5, h6, h7, _⟩ := h
      exact ⟨ad, a, c, es, css, h1, h2, h3, h4, h5, h6, h7, trivial⟩
  · obtain rfl := relV_lit h3
    obtain ⟨b', sh, hg, hb, hl, hin⟩ := hI'.obj i _ hp rfl
    obtain ⟨rfl, hheap, _⟩ := hin
    obtain ⟨hIf, hEf⟩ := inv_freeze (b := b') (n := xs.length) hIc hb hl (by
      intro j o b2 sh2 ho hlv hg2 hbb
      subst hbb
      have hj : j < σ.objs.length := (List.getElem?_eq_some_iff.1 ho).1
      have ho' : σ'.objs[j]? = some o := by obtain ⟨O, T, rfl⟩ := hx; exact getElem?_append_some ho
      have hg3 : g'.objs[j]? = some (b2, sh2) := by
        simp only [G.cut, List.getElem?_take] at hg2
        rw [if_pos hj] at hg2; exact hg2
      have := hI'.inj j i _ _ b2 sh2 sh ho' hp hlv rfl hg3 hg
      omega) ⟨cs, e, (0, 0), hheap, by omega, .inl rfl⟩
    refine ⟨_, _, _, σ, he, hEc.trans hEf, hIf, relV_of ?_ rfl, hK⟩
    simp only [relC, Value.cells]
    refine ⟨some ⟨b', 0, none⟩, some (b', 0), c, 1, xs.map fun x => .int .i64 x, by simp, .inl rfl, relEs_ints, by simpa using h6, h5, by simp, fun b o hbo => .inr ?_, trivial⟩
    simp only [Option.some.injEq, Prod.mk.injEq] at hbo
    obtain ⟨rfl, rfl⟩ := hbo
    refine ⟨⟨cs, e, (0, 0), hheap, fun j hj => ?_⟩, .inr ⟨xs.length, by simp [G.freeze], by simp⟩⟩
    simp only [List.length_map] at hj
    rw [Nat.zero_add, h7 j xs[j] (by rw [List.getElem?_eq_getElem hj])]
    simp [hj]

end Go.Aff

/- The library's sort of a row held as it stands. -/
namespace Go.Aff
set_option linter.unusedVariables false
set_option linter.unusedSimpArgs false
open Go.Sort

variable {g g' : G} {w w' : World} {σ σ' : AST} {P : Program}

theorem objIn_some {b : Nat} {sh : Shape} {o : AObj} (h : objIn g w b sh o) (hl : o.live = true) : ∃ x, w.heap[b]? = some x := by
  cases o with
  | cells v => obtain ⟨c, e, hc, _⟩ := h; exact ⟨_, hc⟩
  | map es ck => obtain ⟨me, hc, _⟩ := h; exact ⟨_, hc⟩
  | gone => simp [AObj.live] at hl
  | pin l o vs xs => exact ⟨_, h.2.1⟩

/-- More objects, more draws: nobody sees them. -/
theorem inv_grow (hI : Inv g σ w) (n : Nat) (os : Array Obj) : Inv g σ (grow (Sort.ahead w n) os) ∧ Ev g w g (grow (Sort.ahead w n) os) := by
  have hold : ∀ (b : Nat) x, w.heap[b]? = some x → (grow (Sort.ahead w n) os).heap[b]? = some x := by
    intro b x hb
    have hlt := (Array.getElem?_eq_some_iff.1 hb).1
    show (w.heap ++ os)[b]? = _
    rw [Array.getElem?_append_left hlt]; exact hb
  have hE : Ev g w g (grow (Sort.ahead w n) os) := by
    refine ⟨rfl, rfl, rfl, by simp [grow, Sort.ahead], rfl, fun b hb => ?_, fun _ _ h => h, fun b L h => ⟨⟨L, h, Nat.le_refl _⟩, fun c e fr hc => ⟨c, e, fr, hold _ _ hc, fun _ _ => rfl⟩⟩, fun t e h => ⟨e, h, rfl, Nat.le_refl _, fun _ => rfl, .inl rfl⟩⟩
    have hlt : b < w.heap.size := Nat.lt_of_lt_of_le hb hI.base
    show (w.heap ++ os)[b]? = _
    rw [Array.getElem?_append_left hlt]
  refine ⟨⟨Nat.le_trans hI.base hE.size, hI.nobj, ?_, hI.inj, ?_, hI.ntok, ?_, hI.tinj⟩, hE⟩
  · intro j q hq hql
    obtain ⟨b2, sh2, h2, hb2, hl2, hin2⟩ := hI.obj j q hq hql
    obtain ⟨x, hx⟩ := objIn_some hin2 hql
    exact ⟨b2, sh2, h2, hb2, hl2, objIn_mono hE (by rw [hold _ _ hx, hx]) hin2⟩
  · intro b L h
    obtain ⟨h1, c, e, fr, h2, h3⟩ := hI.rows b L h
    exact ⟨h1, c, e, fr, hold _ _ h2, h3⟩
  · intro t e h
    obtain ⟨a1, a2, a3, a4, a5⟩ := hI.tok t e h
    refine ⟨a1, a2, a3, a4, fun b o hb hl => ?_⟩
    obtain ⟨c1, c, el, fr, c2, c3⟩ := a5 b o hb hl
    exact ⟨c1, c, el, fr, hold _ _ c2, c3⟩

/-- Calls of the library's sort: a statement about worlds, turned to rows. -/
theorem sort_row {f : FuncId} {e : TypeId} (hf : FnOk P f)
    (hsort : ∀ (blk off cap : Nat) (zs : List Int) (w : World), Holds (Value.int .i64) w blk off zs.toArray → blk < w.heap.size → zs.length < 4611686018427387904 →
      Calls P f #[.slice (some ⟨blk, off, none⟩) zs.length cap] w fun e w' => e = .returned (.tuple #[]) ∧ ∃ n os, w' = grow (putRow (Value.int .i64) (Sort.ahead w n) blk off (zs.mergeSort fun x y => decide (x ≤ y)).toArray) os)
    (hnone : ∀ (p : Option Addr) (cap : Nat) (w : World), Calls P f #[.slice p 0 cap] w fun e w' => e = .returned (.tuple #[]) ∧ w' = w)
    {σ0 σ : AST} {v : AV} {xs : List Int} {K : AV → AST → Prop} (hx : Ext σ0 σ) (hv : Lit σ0 σ e v xs) (hl : xs.length < 4611686018427387904)
    (hK : ∀ σ', Ext σ0 σ' → Lit σ0 σ' e v (xs.mergeSort fun x y => decide (x ≤ y)) → K (.tuple []) σ') : TCalls P f [v] σ K := by
  refine ⟨hf, fun g w ys hI hr => ?_⟩
  obtain ⟨y, rfl, hy⟩ : ∃ y, ys = #[y] ∧ relV g w v y := by
    obtain ⟨h1, h2⟩ := hr
    have : ys.size = 1 := by simpa using h1.symm
    obtain ⟨y, rfl⟩ := Array.size_eq_one_iff.1 this
    exact ⟨y, rfl, h2 0 v y rfl rfl⟩
  rcases hv with ⟨rfl, rfl⟩ | ⟨b, c, i, cs, rfl, h2, hp, h4, h5, h6, h7⟩
  · obtain ⟨ad, a, c, es, css, rfl, had, hes, hc, hcm, hnn, hmem, htok⟩ := relV_slice hy
    refine (hnone ad c w).mono fun ex w' ⟨he, hw⟩ => ?_
    subst hw
    exact ⟨.tuple #[], g, .tuple [], σ, he, Ev.refl _ _, hI, .inr (.inl ⟨[], #[], rfl, rfl, by simp [relVs]⟩), hK σ hx (.inl ⟨by simp, rfl⟩)⟩
  · obtain rfl := relV_lit hy
    obtain ⟨hheap, _⟩ := inv_pin_heap hI hp
    have hblk : b < w.heap.size := (Array.getElem?_eq_some_iff.1 hheap).1
    have hH : Holds (Value.int .i64) w b 0 xs.toArray := by
      intro j hj
      simp only [List.size_toArray] at hj
      have h8 := h7 j xs[j] (by rw [List.getElem?_eq_getElem hj])
      refine ⟨?_, ?_⟩
      · simp only [World.cell?, hheap, Nat.zero_add]
        rw [h8]; congr 2
        simp [hj]
      · simp [World.frozen?, hheap]
    refine (hsort b 0 c xs w hH hblk hl).mono fun ex w' ⟨he, n, os, hw⟩ => ?_
    subst hw
    have hpm := List.mergeSort_perm xs (fun x y => decide (x ≤ y))
    have hlen := hpm.length_eq
    generalize xs.mergeSort (fun x y => decide (x ≤ y)) = zs at *
    have e1 : putRow (Value.int .i64) w b 0 zs.toArray = w.putObj b (.cells (putCells (Value.int .i64) 0 zs.toArray cs) e) := by
      unfold putRow mapBlock World.putObj
      congr 1
      apply Array.ext_getElem?
      intro k
      rw [Array.getElem?_modify, Array.getElem?_setIfInBounds]
      by_cases hk : b = k
      · subst hk; rw [if_pos rfl, hheap, if_pos rfl, if_pos hblk]; rfl
      · simp [hk]
    obtain ⟨_, hE, hI'⟩ := inv_pin (o' := .cells (putCells (Value.int .i64) 0 zs.toArray cs) e) hI hp
    rw [← e1] at hE hI'
    obtain ⟨hI2, hE2⟩ := inv_grow hI' n os
    have e2 : grow (putRow (Value.int .i64) (Sort.ahead w n) b 0 zs.toArray) os = grow (Sort.ahead (putRow (Value.int .i64) w b 0 zs.toArray) n) os := rfl
    rw [e2]
    refine ⟨.tuple #[], g, .tuple [], _, he, hE.trans hE2, hI2, .inr (.inl ⟨[], #[], rfl, rfl, by simp [relVs]⟩), hK _ (hx.set h2) (.inr ⟨b, c, i, putCells (Value.int .i64) 0 zs.toArray cs, by rw [hlen], h2, by simp [AST.set, (List.getElem?_eq_some_iff.1 hp).1], by simp [putCells, h4], h5, by omega, ?_⟩)⟩
    intro j x hj
    have hjl : j < zs.length := (List.getElem?_eq_some_iff.1 hj).1
    have hjc : j < cs.size := by omega
    simp only [putCells, Array.getElem?_mapIdx, Nat.sub_zero, Nat.zero_add, Nat.zero_le, true_and, List.size_toArray]
    rw [Array.getElem?_eq_getElem hjc]
    simp only [Option.map_some, if_pos hjl]
    congr 2
    rw [List.getElem?_eq_getElem hjl] at hj
    simp at hj
    simp [hjl, hj]

end Go.Aff

/- Layer 11: the numbers that a store holds, sorted; walked. -/
-- cuts
namespace Go.Aff.L10
open Go.Proofs Go.Aff Go.Aff.L01 Classical
set_option linter.unusedVariables false
set_option linter.unusedSimpArgs false
set_option maxRecDepth 20000
attribute [local go_sem] push_app app_app length_app cellAt_app cellAt_app0 set_app set_app0 objs_app objs_app0 List.cons_append List.nil_append List.length_cons List.length_nil List.getElem?_cons_zero List.getElem?_cons_succ List.set_cons_zero List.set_cons_succ List.length_map
attribute [-go_sem] cellAt_new
attribute [-simp] List.length_flatMap
attribute [local go_sem] Try.underlying3 Try.underlying4 Try.underlying5 Try.underlying9 Try.underlying24 Try.underlying43 Try.underlying37 Try.underlying22 Try.underlying32 blobPs_0 blobAt_0 blobSet_0 blobPs_1 blobAt_1 blobSet_1 blobPs_2 blobAt_2 blobSet_2 blobPs_3 blobAt_3 blobSet_3 sizes_blob shapes_blob fits_blob zero_blob zt_blob built_blob Try.underlying26 bkeyPs_0 bkeyAt_0 bkeySet_0 bkeyPs_1 bkeyAt_1 bkeySet_1 sizes_bkey shapes_bkey fits_bkey zero_bkey zt_bkey built_bkey Try.underlying56 rstPs_0 rstAt_0 rstSet_0 sizes_rst shapes_rst fits_rst zero_rst zt_rst built_rst Try.underlying45 actPs_0 actAt_0 actSet_0 actPs_1 actAt_1 actSet_1 actPs_2 actAt_2 actSet_2 actPs_3 actAt_3 actSet_3 actPs_4 actAt_4 actSet_4 sizes_act shapes_act fits_act zero_act zt_act built_act Try.underlying42
attribute [local go_sem] fits3 fits4 fits5 fits9 fits23 fits26 fits31 fits34 zt3 zero3 bin_blob_eql bin_blob_neq
attribute [local go_sem ↓] blockQ_exit2
attribute [local simp] dig_ext
attribute [local go_sem] fits58 stAt zero60 zt60 built60 fits60 shape_mp Try.underlying58 Try.underlying60 Try.underlying27 Try.underlying28
noncomputable section
def numsU (B : List Blob) (o : Int) : List Int := (B.filter fun b => decide (b.owner = o)).map (·.num)
def numsB (B : List Blob) (o : Int) : List Int := (numsU B o).mergeSort fun x y => decide (x ≤ y)
end
theorem sorted_unique : ∀ {a b : List Int}, a.Pairwise (· ≤ ·) → b.Pairwise (· ≤ ·) → a.Perm b → a = b
  | [], b, _, _, h => (List.nil_perm.1 h).symm ▸ rfl
  | x :: a, [], _, _, h => by have := h.length_eq; simp at this
  | x :: a, y :: b, ha, hb, h => by
    rw [List.pairwise_cons] at ha hb
    have e : x = y := by
      have h1 := h.mem_iff.1 (List.mem_cons_self (a := x) (l := a))
      have h2 := h.mem_iff.2 (List.mem_cons_self (a := y) (l := b))
      rcases List.mem_cons.1 h1 with h1 | h1
      · exact h1
      · rcases List.mem_cons.1 h2 with h2 | h2
        · exact h2.symm
        · have := ha.1 y h2; have := hb.1 x h1; omega
    subst e
    rw [sorted_unique ha.2 hb.2 ((List.perm_cons _).1 h)]
theorem numsB_sorted {B : List Blob} {o : Int} : (numsB B o).Pairwise (· ≤ ·) := by
  have := List.pairwise_mergeSort (le := fun (x y : Int) => decide (x ≤ y)) (by intro a b c; simp; omega) (by intro a b; simp; omega) (numsU B o)
  exact this.imp fun h => by simpa using h
theorem numsB_perm' {B : List Blob} {o : Int} : (numsB B o).Perm (numsU B o) := List.mergeSort_perm ..
theorem numsU_perm {A B : List Blob} {o : Int} (h : A.Perm B) : (numsU A o).Perm (numsU B o) := (h.filter _).map _
theorem numsB_perm {A B : List Blob} {o : Int} (h : A.Perm B) : numsB A o = numsB B o :=
  sorted_unique numsB_sorted numsB_sorted (numsB_perm'.trans ((numsU_perm h).trans numsB_perm'.symm))
theorem numsU_app {A B : List Blob} {o : Int} : numsU (A ++ B) o = numsU A o ++ numsU B o := by simp [numsU]
theorem numsU_len {B : List Blob} {o : Int} : (numsU B o).length = usedN B o := by simp [numsU, usedN, List.countP_eq_length_filter]
theorem numsB_len {B : List Blob} {o : Int} : (numsB B o).length = usedN B o := by rw [numsB_perm'.length_eq, numsU_len]
theorem E37 : ElemT Try.prog 37 3 1 8 := ⟨rfl, by kernel_rfl, by kernel_rfl, ⟨_, of_eq_true zt3⟩, by decide⟩
theorem fnok25 : FnOk Try.prog 25 := ⟨_, Try.func25, by kernel_rfl, by kernel_rfl⟩
theorem sort_c {σ0 σ : AST} {v : AV} {xs : List Int} {K : AV → AST → Prop} (hx : Ext σ0 σ) (hv : Lit σ0 σ 3 v xs) (hl : xs.length < 4611686018427387904)
    (hK : ∀ σ', Ext σ0 σ' → Lit σ0 σ' 3 v (xs.mergeSort fun x y => decide (x ≤ y)) → K (.tuple []) σ') : TCalls Try.prog 25 [v] σ K :=
  sort_row fnok25 (fun blk off cap zs w h1 h2 h3 => Try.slices_Sort_int blk off cap zs w h1 h2 h3) (fun p cap w => Try.slices_Sort_int_none p cap w) hx hv hl hK
section
variable {σ0 s : AST} {j mi : Nat} {B : List Blob} {F : List (Nat × AObj)} {K : AV → AST → Prop}
theorem snum_c (h : SF σ0 s j mi B F) (hB : BOk B) {o : Int} (hK : K (.slice .none ((numsB B o).map (AV.int .i64))) s) : TCalls Try.prog 17 [.ptr (some (j, [])), .int .i64 o] s K := by
  refine TCalls.freeze (e := 3) ?_ hK
  obtain ⟨E, ck, rfl, hm, hck, hnd⟩ := h.om
  have cj := cellAt_known h.o
  have hlt := h.lt
  refine tcalls_walk Try.f17 _ [.tmp 4] Try.func17 rfl rfl rfl mixed (Nat.le_of_ble_eq_true rfl) rfl fun hlen => ?_
  repeat' (first | (simp -dsimp only [↓reduceIte, go_sem, cj]) | (refine arr_intro fun _ => ?_) | (refine later_intro ⟨keeps_nil, ?_⟩) | (refine later_intro ⟨keeps_refl, ?_⟩) | (with_reducible refine keeps_go ?_ ?_; focus (first | (simp [keeps_cons, keeps_none, objs_app, objs_app0]; done) | (simp only [keeps_cons, keeps_none, objs_app0, objs_app, and_true]; first | rfl | exact ⟨rfl, rfl⟩ | exact ⟨rfl, rfl, rfl⟩))) | (with_reducible refine (And.intro (a := keeps _ _ _) ?_ ?_); focus (first | (simp [keeps_cons, keeps_none, objs_app, objs_app0]; done) | (simp only [keeps_cons, keeps_none, objs_app0, objs_app, and_true]; first | rfl | exact ⟨rfl, rfl⟩ | exact ⟨rfl, rfl, rfl⟩))) | (refine both_ways ?_ ?_) | (rw [wrap_i64 (by omega) (by omega)]) | (refine guardV_split (fun h => ?_) (fun h => ?_) <;> (try rw [h]) <;> (try simp at h) <;> (try (exfalso; omega))))
  refine ⟨⟨56, 26, Try.underlying58⟩, ?_⟩
  simp only [hm]
  intro l b
  repeat' (first | (simp -dsimp only [↓reduceIte, go_sem]) | (refine arr_intro fun _ => ?_) | (refine later_intro ⟨keeps_nil, ?_⟩) | (refine later_intro ⟨keeps_refl, ?_⟩) | (with_reducible refine keeps_go ?_ ?_; focus (first | (simp [keeps_cons, keeps_none, objs_app, objs_app0]; done) | (simp only [keeps_cons, keeps_none, objs_app0, objs_app, and_true]; first | rfl | exact ⟨rfl, rfl⟩ | exact ⟨rfl, rfl, rfl⟩))) | (with_reducible refine (And.intro (a := keeps _ _ _) ?_ ?_); focus (first | (simp [keeps_cons, keeps_none, objs_app, objs_app0]; done) | (simp only [keeps_cons, keeps_none, objs_app0, objs_app, and_true]; first | rfl | exact ⟨rfl, rfl⟩ | exact ⟨rfl, rfl, rfl⟩))) | (refine both_ways ?_ ?_) | (rw [wrap_i64 (by omega) (by omega)]) | (refine guardV_split (fun h => ?_) (fun h => ?_) <;> (try rw [h]) <;> (try simp at h) <;> (try (exfalso; omega))))
  have hlen : E.length ≤ 2048 := by have := hB.len; rwa [List.length_map] at this
  have hck' : ∀ e ∈ E.map entB, e.1 < ck := fun e he => by obtain ⟨x, hx, rfl⟩ := List.mem_map.1 he; exact hck x hx
  refine awp_rounds (fun (i : Nat) τ s' => ∃ (D : List (Nat × Blob)) (last : Nat) (v : AV), D.length = i ∧ Met E D ∧ ck ≤ last ∧ Ext s s' ∧ s'.objs[s.objs.length]? = some (iterO l b mi ck (D.map (·.1)).toArray last) ∧ Lit s s' 3 v (numsU (D.map (·.2)) o) ∧ τ 1 = .int .i64 o ∧ τ 5 = v ∧ τ 14 = .ptr (some (s.objs.length, []))) (fun i => E.length - i) 0 ?_ ?_
  · refine ⟨[], ck, .slice .full [], rfl, ⟨by simp, by simp⟩, Nat.le_refl _, Ext.app _ _, by rw [objs_app0]; rfl, Lit.nil, ?_, ?_, ?_⟩ <;> (try simp only [go_sem]) <;> (try rfl)
  · rintro i τ s' ⟨D, last, v, hDl, hD, hla, hx, hit, hL, t1, t5, t14⟩
    have hm' := ext_knownB hx hm
    have hDlen := hD.len
    repeat' (first | (simp -dsimp only [↓reduceIte, go_sem, t1, t5, t14]) | (refine arr_intro fun _ => ?_) | (refine later_intro ⟨keeps_nil, ?_⟩) | (refine later_intro ⟨keeps_refl, ?_⟩) | (with_reducible refine keeps_go ?_ ?_; focus (first | (simp [keeps_cons, keeps_none, objs_app, objs_app0]; done) | (simp only [keeps_cons, keeps_none, objs_app0, objs_app, and_true]; first | rfl | exact ⟨rfl, rfl⟩ | exact ⟨rfl, rfl, rfl⟩))) | (with_reducible refine (And.intro (a := keeps _ _ _) ?_ ?_); focus (first | (simp [keeps_cons, keeps_none, objs_app, objs_app0]; done) | (simp only [keeps_cons, keeps_none, objs_app0, objs_app, and_true]; first | rfl | exact ⟨rfl, rfl⟩ | exact ⟨rfl, rfl, rfl⟩))) | (refine both_ways ?_ ?_) | (rw [wrap_i64 (by omega) (by omega)]) | (refine guardV_split (fun h => ?_) (fun h => ?_) <;> (try rw [h]) <;> (try simp at h) <;> (try (exfalso; omega))))
    refine ⟨rfl, s.objs.length, l, b, mi, ck, _, last, _, _, rfl, hit, hm', hck', hla, fun e he hne => ?_, fun hall => ?_⟩
    · obtain ⟨e, he0, rfl⟩ := List.mem_map.1 he
      have hne' : ¬ e.1 ∈ D.map (·.1) := by simpa [entB] using hne
      have hD' := hD.add he0 hne'
      have hl2 := hD'.len
      rw [List.length_append] at hl2
      simp only [List.length_singleton] at hl2
      have hil := cell_ltB hit
      have oit : ∀ l, ((s'.set s.objs.length (iterO l b mi ck ((D.map (·.1)).toArray.push (entB e).1) ck))).objs[s.objs.length]? = some (iterO l b mi ck ((D.map (·.1)).toArray.push (entB e).1) ck) := fun l => objs_setSB hil
      have omi : ∀ o, (s'.set s.objs.length o).objs[mi]? = some (.map (E.map entB) ck) := fun o => by rw [objs_setNB (by omega)]; exact hm'
      repeat' (first | (simp -dsimp only [↓reduceIte, go_sem, t1, t5, t14]) | (refine arr_intro fun _ => ?_) | (refine later_intro ⟨keeps_nil, ?_⟩) | (refine later_intro ⟨keeps_refl, ?_⟩) | (with_reducible refine keeps_go ?_ ?_; focus (first | (simp [keeps_cons, keeps_none, objs_app, objs_app0]; done) | (simp only [keeps_cons, keeps_none, objs_app0, objs_app, and_true]; first | rfl | exact ⟨rfl, rfl⟩ | exact ⟨rfl, rfl, rfl⟩))) | (with_reducible refine (And.intro (a := keeps _ _ _) ?_ ?_); focus (first | (simp [keeps_cons, keeps_none, objs_app, objs_app0]; done) | (simp only [keeps_cons, keeps_none, objs_app0, objs_app, and_true]; first | rfl | exact ⟨rfl, rfl⟩ | exact ⟨rfl, rfl, rfl⟩))) | (refine both_ways ?_ ?_) | (rw [wrap_i64 (by omega) (by omega)]) | (refine guardV_split (fun h => ?_) (fun h => ?_) <;> (try rw [h]) <;> (try simp at h) <;> (try (exfalso; omega))))
      refine ⟨s.objs.length, l, b, mi, ck, (D.map (·.1)).toArray, _, entB e, ck, rfl, oit _, omi _, he, ?_⟩
      have hx3 := hx.set (o := iterO l b mi ck ((D.map (·.1)).toArray.push (entB e).1) ck) (Nat.le_refl s.objs.length)
      have hL3 : Lit s (s'.set s.objs.length (iterO l b mi ck ((D.map (·.1)).toArray.push (entB e).1) ck)) 3 v (numsU (D.map (·.2)) o) := hL.keep fun q o ho hr => by
        rw [objs_setNB]
        · exact ho
        · rintro rfl; rw [hit] at ho; cases ho; cases hr
      have oit3 : (s'.set s.objs.length (iterO l b mi ck ((D.map (·.1)).toArray.push (entB e).1) ck)).objs[s.objs.length]? = some (iterO l b mi ck ((D ++ [e]).map (·.1)).toArray ck) := by
        rw [objs_setSB hil]
        have : (D.map (·.1)).toArray.push (entB e).1 = ((D ++ [e]).map (·.1)).toArray := by simp [entB]
        rw [this]
      generalize s'.set s.objs.length (iterO l b mi ck ((D.map (·.1)).toArray.push (entB e).1) ck) = s3 at *
      have k1 : (entB e).2.1 = .agg (bkeyPs (kOf e.2)) := rfl
      have k2 : (entB e).2.2 = .agg (blobPs e.2) := rfl
      have k3 : (kOf e.2).owner = e.2.owner := rfl
      have k4 : (kOf e.2).num = e.2.num := rfl
      have hn := usedN_le (L := D.map (·.2)) (o := o)
      rw [List.length_map] at hn
      have hnl : (numsU (D.map (·.2)) o).length ≤ 2048 := by rw [numsU_len]; omega
      have hLA : ∀ q, Lit s (s3.app q) 3 v (numsU (D.map (·.2)) o) := fun q => hL3.keep fun j o ho _ => objs_known_app ho _
      by_cases ho : e.2.owner = o
      · have d1 : numsU ((D ++ [e]).map (·.2)) o = numsU (D.map (·.2)) o ++ [e.2.num] := by rw [List.map_append, numsU_app]; simp [numsU, ho]
        have hq : (e.2.owner == o) = true := by simp [ho]
        repeat' (first | (simp -dsimp only [↓reduceIte, go_sem, t1, t5, t14, k1, k2, k3, k4, hq]) | (refine arr_intro fun _ => ?_) | (refine later_intro ⟨keeps_nil, ?_⟩) | (refine later_intro ⟨keeps_refl, ?_⟩) | (with_reducible refine keeps_go ?_ ?_; focus (first | (simp [keeps_cons, keeps_none, objs_app, objs_app0]; done) | (simp only [keeps_cons, keeps_none, objs_app0, objs_app, and_true]; first | rfl | exact ⟨rfl, rfl⟩ | exact ⟨rfl, rfl, rfl⟩))) | (with_reducible refine (And.intro (a := keeps _ _ _) ?_ ?_); focus (first | (simp [keeps_cons, keeps_none, objs_app, objs_app0]; done) | (simp only [keeps_cons, keeps_none, objs_app0, objs_app, and_true]; first | rfl | exact ⟨rfl, rfl⟩ | exact ⟨rfl, rfl, rfl⟩))) | (refine both_ways ?_ ?_) | (rw [wrap_i64 (by omega) (by omega)]) | (refine guardV_split (fun h => ?_) (fun h => ?_) <;> (try rw [h]) <;> (try simp at h) <;> (try (exfalso; omega))) | (refine build_slice E37 rfl (by decide) (by intro v hv; simp at hv; try (subst hv; simp [go_sem])) ?_))
        refine append_lit E37 ⟨_, of_eq_true zt3, rfl⟩ rfl (hx3.trans (Ext.app _ _)) (hLA _) (by omega) (by simp only [maxL]; omega) fun v' s4 hx4 hL4 hk4 _ => ?_
        rw [← d1] at hL4
        have oit4 := hk4 _ _ (objs_known_app oit3 _) rfl
        repeat' (first | (simp -dsimp only [↓reduceIte, go_sem, t1, t5, t14]) | (refine arr_intro fun _ => ?_) | (refine later_intro ⟨keeps_nil, ?_⟩) | (refine later_intro ⟨keeps_refl, ?_⟩) | (with_reducible refine keeps_go ?_ ?_; focus (first | (simp [keeps_cons, keeps_none, objs_app, objs_app0]; done) | (simp only [keeps_cons, keeps_none, objs_app0, objs_app, and_true]; first | rfl | exact ⟨rfl, rfl⟩ | exact ⟨rfl, rfl, rfl⟩))) | (with_reducible refine (And.intro (a := keeps _ _ _) ?_ ?_); focus (first | (simp [keeps_cons, keeps_none, objs_app, objs_app0]; done) | (simp only [keeps_cons, keeps_none, objs_app0, objs_app, and_true]; first | rfl | exact ⟨rfl, rfl⟩ | exact ⟨rfl, rfl, rfl⟩))) | (refine both_ways ?_ ?_) | (rw [wrap_i64 (by omega) (by omega)]) | (refine guardV_split (fun h => ?_) (fun h => ?_) <;> (try rw [h]) <;> (try simp at h) <;> (try (exfalso; omega))))
        refine later_intro ⟨i + 1, by omega, D ++ [e], ck, v', by simp [hDl], hD', Nat.le_refl _, hx4, oit4, hL4, ?_, ?_, ?_⟩ <;> (try simp only [go_sem, t1, t5, t14]) <;> (try rfl)
      · have d1 : numsU ((D ++ [e]).map (·.2)) o = numsU (D.map (·.2)) o := by rw [List.map_append, numsU_app]; simp [numsU, ho]
        have hq : (e.2.owner == o) = false := by simp [ho]
        repeat' (first | (simp -dsimp only [↓reduceIte, go_sem, t1, t5, t14, k1, k2, k3, k4, hq]) | (refine arr_intro fun _ => ?_) | (refine later_intro ⟨keeps_nil, ?_⟩) | (refine later_intro ⟨keeps_refl, ?_⟩) | (with_reducible refine keeps_go ?_ ?_; focus (first | (simp [keeps_cons, keeps_none, objs_app, objs_app0]; done) | (simp only [keeps_cons, keeps_none, objs_app0, objs_app, and_true]; first | rfl | exact ⟨rfl, rfl⟩ | exact ⟨rfl, rfl, rfl⟩))) | (with_reducible refine (And.intro (a := keeps _ _ _) ?_ ?_); focus (first | (simp [keeps_cons, keeps_none, objs_app, objs_app0]; done) | (simp only [keeps_cons, keeps_none, objs_app0, objs_app, and_true]; first | rfl | exact ⟨rfl, rfl⟩ | exact ⟨rfl, rfl, rfl⟩))) | (refine both_ways ?_ ?_) | (rw [wrap_i64 (by omega) (by omega)]) | (refine guardV_split (fun h => ?_) (fun h => ?_) <;> (try rw [h]) <;> (try simp at h) <;> (try (exfalso; omega))))
        refine later_intro ⟨i + 1, by omega, D ++ [e], ck, v, by simp [hDl], hD', Nat.le_refl _, hx3.trans (Ext.app _ _), objs_known_app oit3 _, by rw [d1]; exact hLA _, ?_, ?_, ?_⟩ <;> (try simp only [go_sem, t1, t5, t14]) <;> (try rfl)
    · have hperm := hD.all hnd fun e he => by
        have := hall (entB e) (List.mem_map_of_mem he)
        simpa [entB] using this
      have e1 := numsB_perm (hperm.map (·.2)) (o := o)
      have hn := usedN_le (L := D.map (·.2)) (o := o)
      rw [List.length_map] at hn
      have hnl : (numsU (D.map (·.2)) o).length ≤ 2048 := by rw [numsU_len]; omega
      repeat' (first | (simp -dsimp only [↓reduceIte, go_sem, t1, t5, t14]) | (refine arr_intro fun _ => ?_) | (refine later_intro ⟨keeps_nil, ?_⟩) | (refine later_intro ⟨keeps_refl, ?_⟩) | (with_reducible refine keeps_go ?_ ?_; focus (first | (simp [keeps_cons, keeps_none, objs_app, objs_app0]; done) | (simp only [keeps_cons, keeps_none, objs_app0, objs_app, and_true]; first | rfl | exact ⟨rfl, rfl⟩ | exact ⟨rfl, rfl, rfl⟩))) | (with_reducible refine (And.intro (a := keeps _ _ _) ?_ ?_); focus (first | (simp [keeps_cons, keeps_none, objs_app, objs_app0]; done) | (simp only [keeps_cons, keeps_none, objs_app0, objs_app, and_true]; first | rfl | exact ⟨rfl, rfl⟩ | exact ⟨rfl, rfl, rfl⟩))) | (refine both_ways ?_ ?_) | (rw [wrap_i64 (by omega) (by omega)]) | (refine guardV_split (fun h => ?_) (fun h => ?_) <;> (try rw [h]) <;> (try simp at h) <;> (try (exfalso; omega))))
      refine sort_c hx hL (by omega) fun s5 hx5 hL5 => ?_
      have e2 : ((numsU (D.map (·.2)) o).mergeSort fun x y => decide (x ≤ y)) = numsB (E.map (·.2)) o := e1
      rw [e2] at hL5
      repeat' (first | (simp -dsimp only [↓reduceIte, go_sem, t1, t5, t14]) | (refine arr_intro fun _ => ?_) | (refine later_intro ⟨keeps_nil, ?_⟩) | (refine later_intro ⟨keeps_refl, ?_⟩) | (with_reducible refine keeps_go ?_ ?_; focus (first | (simp [keeps_cons, keeps_none, objs_app, objs_app0]; done) | (simp only [keeps_cons, keeps_none, objs_app0, objs_app, and_true]; first | rfl | exact ⟨rfl, rfl⟩ | exact ⟨rfl, rfl, rfl⟩))) | (with_reducible refine (And.intro (a := keeps _ _ _) ?_ ?_); focus (first | (simp [keeps_cons, keeps_none, objs_app, objs_app0]; done) | (simp only [keeps_cons, keeps_none, objs_app0, objs_app, and_true]; first | rfl | exact ⟨rfl, rfl⟩ | exact ⟨rfl, rfl, rfl⟩))) | (refine both_ways ?_ ?_) | (rw [wrap_i64 (by omega) (by omega)]) | (refine guardV_split (fun h => ?_) (fun h => ?_) <;> (try rw [h]) <;> (try simp at h) <;> (try (exfalso; omega))))
      exact ⟨hx5, hL5⟩
end
end Go.Aff.L10

