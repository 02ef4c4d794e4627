import Derived.Test.YtahhjdknfhkgcaaG6
import Derived.WalkKit
import Derived.ProofKit
import Derived.OpenShut
import Derived.ShutString
import Derived.ChangeOld
import Derived.Below
import Derived.SizedLaws
import Derived.Carry
import Derived.KernelRfl
import Derived.Laws.BitsLemmas
import Derived.Laws.Bits64
import Derived.Test.YtahhjdknfhkgcaaProg

set_option linter.unusedSimpArgs false
set_option linter.unusedVariables false

namespace Go.Aff

open Go.RowKit Go.ChangeShapes Go.WideShapes Go.ChangeAt Go.ChangeMaps

variable {H : Type} {enc : TypeId × Value → H} {P : Program}

def aggD (xs : List AV) : AV := match unU8 xs with
  | some l => if h : l.length = 32 then .dig ⟨l, h⟩ else .agg xs
  | none => .agg xs
theorem aggD_ne {xs : List AV} (h : xs.length ≠ 32) : aggD xs = .agg xs := by
  unfold aggD
  split
  · rename_i l hl
    rw [dif_neg (by rw [unU8_length hl]; exact h)]
  · rfl
theorem unU8_bytes : ∀ (l : List UInt8), unU8 (l.map fun b => AV.int .u8 (b.toNat : Int)) = some l
  | [] => rfl
  | b :: r => by simp [unU8, unU8_bytes r]
theorem aggD_dig {l : List UInt8} (h : l.length = 32) : aggD (l.map fun b => AV.int .u8 (b.toNat : Int)) = .dig ⟨l, h⟩ := by
  unfold aggD
  rw [unU8_bytes]
  simp [h]
mutual
def absD : DataW H → AV
  | .lit (.bool b) => .bool b
  | .lit (.int k n) => .int k n
  | .lit (.string l) => .str l
  | .nil => .slice .full []
  | .slice es _ => .slice .none (absDs es)
  | .agg ps => aggD (absDs ps)
  | _ => .undef
def absDs : List (DataW H) → List AV
  | [] => []
  | d :: r => absD d :: absDs r
end

theorem absDs_map : ∀ (l : List (DataW H)), absDs l = l.map absD
  | [] => rfl
  | d :: r => by simp [absDs, absDs_map r]

def laidFrom (P : Program) : Nat → List Field → Option Nat
  | o, [] => some o
  | o, f :: fs => if f.offset = o then laidFrom P (o + P.cellsOf f.type) fs else none

def arr32 (P : Program) (t : TypeId) (n : Nat) (e : TypeId) : Bool := n == 32 && isU8 P e && P.cellsOf e == 1 && P.cellsOf t == 32
def flatT (P : Program) : Nat → TypeId → Bool
  | 0, _ => false
  | n + 1, t => match P.underlying t with
    | some .bool => true
    | some (.int _) => true
    | some .string => true
    | some (.struct fs) => (fs.size != 32 && laidFrom P 0 fs.toList == some (P.cellsOf t)) && fs.toList.all fun f => flatT P n f.type
    | some (.array k e) => arr32 P t k e
    | _ => false

def plainT (P : Program) : Nat → TypeId → Bool
  | 0, _ => false
  | n + 1, t => match P.underlying t with
    | some .bool => true
    | some (.int _) => true
    | some .string => true
    | some (.slice e) => decide (0 < P.cellsOf e) && plainT P n e
    | some (.struct fs) => (fs.size != 32 && laidFrom P 0 fs.toList == some (P.cellsOf t)) && fs.toList.all fun f => plainT P n f.type
    | some (.array k e) => arr32 P t k e
    | _ => false

variable {g : G} {W : World}

theorem rows_rel {es b : Nat} {o : Nat} : ∀ (els : List AV), (∀ i v, els[i]? = some v → ∃ cs, cs.length = es ∧ relC g W v cs ∧ ∀ j, j < es → W.cell? ⟨b, o + i * es + j, none⟩ = cs[j]?) →
    ∃ css, relEs g W es els css ∧ ∀ j, j < css.length → W.cell? ⟨b, o + j, none⟩ = css[j]?
  | [], h => ⟨[], by simp [relEs], fun j hj => by simp at hj⟩
  | v :: r, h => by
    obtain ⟨c1, hl, hr, hc⟩ := h 0 v rfl
    obtain ⟨c2, hr2, hc2⟩ := rows_rel (es := es) (b := b) (o := o + es) r (fun i u hu => by
      obtain ⟨cs, h1, h2, h3⟩ := h (i + 1) u (by simpa using hu)
      exact ⟨cs, h1, h2, fun j hj => by rw [← h3 j hj]; congr 2; rw [Nat.add_mul]; omega⟩)
    refine ⟨c1 ++ c2, by simp only [relEs]; exact ⟨c1, c2, rfl, hl, hr, hr2⟩, fun j hj => ?_⟩
    by_cases hj1 : j < c1.length
    · rw [List.getElem?_append_left hj1, ← hc j (by omega)]; simp
    · rw [List.getElem?_append_right (by omega), ← hc2 (j - c1.length) (by simp at hj; omega)]
      congr 2; omega

theorem parts_rel {n : Nat} {spare : Nat → Bool} {held : Bool} {N : Nat} (ok : Value → Prop) (T : TypeId → Prop)
    (ih : ∀ t cs x, T t → DataW.trod enc P W 0 spare held n t cs = some x → (∀ c ∈ cs, ok c) → relC g W (absD x.1) cs) :
    ∀ (fs : List Field) (xs : List (DataW H × List MemPlace)) (o : Nat) (cs : List Value), laidFrom P o fs = some N → cs.length = N → (∀ f ∈ fs, T f.type) → (∀ c ∈ cs, ok c) → xs.length = fs.length →
      (∀ (i : Nat) (f : Field), fs[i]? = some f → DataW.trod enc P W 0 spare held n f.type ((cs.drop f.offset).take (P.cellsOf f.type)) = xs[i]?) →
      relPs g W (absDs (xs.map (·.1))) (cs.drop o)
  | [], [], o, cs, hl, hcs, hT, hn, hx, h => by
    simp only [laidFrom, Option.some.injEq] at hl
    simp only [List.map_nil, absDs, relPs]
    exact List.drop_of_length_le (by omega)
  | [], x :: xs, o, cs, hl, hcs, hT, hn, hx, h => by simp at hx
  | f :: fs, [], o, cs, hl, hcs, hT, hn, hx, h => by simp at hx
  | f :: fs, x :: xs, o, cs, hl, hcs, hT, hn, hx, h => by
    simp only [laidFrom] at hl
    split at hl
    · rename_i ho
      have h0 := h 0 f rfl
      simp only [List.getElem?_cons_zero] at h0
      have hr := ih _ _ _ (hT f (by simp)) h0 (fun c hc => hn c (List.mem_of_mem_drop (List.mem_of_mem_take hc)))
      have hr2 := parts_rel ok T ih fs xs _ cs hl hcs (fun f hf => hT f (by simp [hf])) hn (by simpa using hx) (fun i f hf => by simpa using h (i + 1) f (by simpa using hf))
      simp only [List.map_cons, absDs, relPs]
      refine ⟨_, _, ?_, hr, hr2⟩
      rw [ho, ← List.drop_drop]
      exact (List.take_append_drop _ _).symm
    · cases hl

theorem isU8_iff {e : TypeId} (h : isU8 P e = true) : P.underlying e = some (.int .u8) := by
  unfold isU8 at h; split at h
  · assumption
  · cases h
theorem bytes_of {spare : Nat → Bool} {held : Bool} {m : Nat} {e : TypeId} (he : P.underlying e = some (.int .u8)) : ∀ (cs : List Value) (xs : List (DataW H × List MemPlace)), cs.length = xs.length →
    (∀ i, i < cs.length → DataW.trod enc P W 0 spare held m e ((cs.drop i).take 1) = xs[i]?) → ∃ l : List UInt8, cs = l.map (fun b => Value.int .u8 b.toNat) ∧ absDs (xs.map (·.1)) = l.map (fun b => AV.int .u8 (b.toNat : Int))
  | [], [], hl, h => ⟨[], rfl, rfl⟩
  | [], x :: xs, hl, h => by simp at hl
  | c :: cs, [], hl, h => by simp at hl
  | c :: cs, x :: xs, hl, h => by
    obtain ⟨l, h1, h2⟩ := bytes_of he cs xs (by simpa using hl) (fun i hi => by simpa using h (i + 1) (by simpa using hi))
    have h0 := h 0 (by simp)
    simp only [List.drop_zero, List.take_succ_cons, List.take_zero, List.getElem?_cons_zero] at h0
    obtain ⟨n, hc, rfl, hw⟩ := DataW.trod_int he h0
    simp only [List.cons.injEq, and_true] at hc
    subst hc
    have hr : (IntKind.u8).min ≤ n ∧ n ≤ (IntKind.u8).max := by simpa [Lit.wf] using hw
    have hr : 0 ≤ n ∧ n ≤ 255 := hr
    have e1 : (((UInt8.ofNat n.toNat).toNat : Nat) : Int) = n := by
      rw [UInt8.toNat_ofNat']
      omega
    refine ⟨UInt8.ofNat n.toNat :: l, ?_, ?_⟩
    · rw [List.map_cons, e1, ← h1]
    · rw [List.map_cons, List.map_cons, absDs, h2, e1]; rfl
theorem arr_of {spare : Nat → Bool} {held : Bool} {n k : Nat} {t e : TypeId} {cs : List Value} {x : DataW H × List MemPlace} (hu : P.underlying t = some (.array k e)) (ha : arr32 P t k e = true) (h : DataW.trod enc P W 0 spare held n t cs = some x) :
    ∃ d : Dig, absD x.1 = .dig d ∧ cs = d.l.map fun b => Value.int .u8 b.toNat := by
  unfold arr32 at ha
  simp only [Bool.and_eq_true, beq_iff_eq] at ha
  obtain ⟨⟨⟨rfl, h8⟩, h1⟩, h32⟩ := ha
  obtain ⟨xs, m, rfl, rfl, hcl, hxl, hx⟩ := DataW.trod_array hu h
  rw [h1] at hx
  obtain ⟨l, e1, e2⟩ := bytes_of (isU8_iff h8) cs xs (by omega) (fun i hi => by simpa using hx i (by omega))
  have hl : l.length = 32 := by
    have := congrArg List.length e1
    rw [List.length_map] at this; omega
  refine ⟨⟨l, hl⟩, ?_, e1⟩
  simp only [absD]
  rw [e2, aggD_dig hl]

theorem flat_rel {spare : Nat → Bool} {held : Bool} : ∀ (n m : Nat) (t : TypeId) (cs : List Value) (x : DataW H × List MemPlace), flatT P m t = true → DataW.trod enc P W 0 spare held n t cs = some x → relC g W (absD x.1) cs
  | 0, m, t, cs, x, hf, h => by simp [DataW.trod] at h
  | n + 1, 0, t, cs, x, hf, h => by simp [flatT] at hf
  | n + 1, m + 1, t, cs, x, hf, h => by
    unfold flatT at hf
    split at hf
    · rename_i hu; obtain ⟨b, rfl, rfl⟩ := DataW.trod_bool hu h; simp [absD, relC]
    · rename_i hu; obtain ⟨b, rfl, rfl, _⟩ := DataW.trod_int hu h; simp [absD, relC]
    · rename_i hu; obtain ⟨s, rfl, rfl, hs⟩ := DataW.trod_string hu h
      simp only [absD, relC]
      refine ⟨by simp, ?_⟩
      have : s.size = s.data.toList.length := by simp
      have h2 : maxLen ≤ maxL := by decide
      omega
    · rename_i fs hu
      simp only [Bool.and_eq_true, beq_iff_eq, bne_iff_ne, ne_eq, List.all_eq_true] at hf
      obtain ⟨⟨hne, hlaid⟩, hall⟩ := hf
      obtain ⟨xs, n', hn, rfl, hl, hxl, hx⟩ := DataW.trod_struct hu h
      cases hn
      have hf := And.intro hlaid hall
      simp only [absD]
      rw [aggD_ne (by rw [absDs_map, List.length_map, List.length_map, hxl]; simpa using hne)]
      simp only [relC]
      exact parts_rel (g := g) (W := W) (enc := enc) (P := P) (n := n) (spare := spare) (held := held) (fun _ => True) (fun t => flatT P m t = true) (fun t cs x ht hx _ => flat_rel n m t cs x ht hx) fs.toList xs 0 cs hf.1 hl (fun f hf' => hf.2 f hf') (fun _ _ => trivial) (by simpa using hxl) (fun i f hf' => hx i f (by simpa using hf'))
    · rename_i k e hu
      obtain ⟨d, h1, h2⟩ := arr_of hu hf h
      rw [h1]; simp only [relC]; exact h2
    · cases hf

theorem rd_of {b o : Nat} {css : List Value} (h : ∀ j, j < css.length → W.cell? ⟨b, o + j, none⟩ = css[j]?) : css = [] ∨ rd W b o css := by
  rcases css with _ | ⟨c, r⟩
  · exact .inl rfl
  refine .inr ?_
  have h0 := h 0 (by simp)
  unfold World.cell? at h0
  split at h0
  · rename_i cc e fr hc
    refine ⟨cc, e, fr, hc, fun j hj => ?_⟩
    have := h j hj
    unfold World.cell? at this
    dsimp only at this hc
    rw [hc] at this
    simpa using this
  · simp at h0

theorem plain_rel (hg : W.heap.size ≤ g.base) {spare : Nat → Bool} {held : Bool} (hsp : ∀ b, spare b = true) : ∀ (n m : Nat) (t : TypeId) (cs : List Value) (x : DataW H × List MemPlace), plainT P m t = true → DataW.trod enc P W 0 spare held n t cs = some x → relC g W (absD x.1) cs
  | 0, m, t, cs, x, hf, h => by simp [DataW.trod] at h
  | n + 1, 0, t, cs, x, hf, h => by simp [plainT] at hf
  | n + 1, m + 1, t, cs, x, hf, h => by
    unfold plainT at hf
    split at hf
    · rename_i hu; obtain ⟨b, rfl, rfl⟩ := DataW.trod_bool hu h; simp [absD, relC]
    · rename_i hu; obtain ⟨b, rfl, rfl, _⟩ := DataW.trod_int hu h; simp [absD, relC]
    · rename_i hu; obtain ⟨s, rfl, rfl, hs⟩ := DataW.trod_string hu h
      simp only [absD, relC]
      refine ⟨by simp, ?_⟩
      have : s.size = s.data.toList.length := by simp
      have h2 : maxLen ≤ maxL := by decide
      omega
    · rename_i e hu
      simp only [Bool.and_eq_true, decide_eq_true_eq] at hf
      rcases DataW.trod_slice hu h with ⟨rfl, rfl⟩ | ⟨a, len, cap, elems, rest, n', hn', rfl, rfl, hb, hl, hm, hlen, hel, hrest, -⟩
      · simp only [absD]; exact relC_nil g W
      · cases hn'
        by_cases hcap : cap = 0
        · subst hcap
          obtain rfl : len = 0 := by omega
          obtain rfl := List.length_eq_zero_iff.1 hlen
          simp only [absD, relC, List.map_nil, absDs]
          exact ⟨some a, none, 0, P.cellsOf e, [], rfl, .inr ⟨rfl, rfl⟩, by simp [relEs], Nat.le_refl _, by decide, fun _ => rfl, (fun b o h => by cases h), trivial⟩
        have hs : a.spot = none := by
          obtain ⟨hr1, hr2⟩ := hrest (hsp _)
          have key : ∀ (y : Option (DataW H × List MemPlace)), (World.cells? W 0 (a.add (0 * P.cellsOf e)) (P.cellsOf e)).bind (DataW.trod enc P W 0 spare held n e) = y → y.isSome = true → a.spot = none := by
            intro y hy hsome
            cases y with
            | none => cases hsome
            | some y =>
              rw [Option.bind_eq_some_iff] at hy
              obtain ⟨cs, hcs, _⟩ := hy
              obtain ⟨_, hcl, hcell⟩ := World.cells?_some hcs
              have h0 := hcell 0 hf.1
              have : ∃ v, cs[0]? = some v := ⟨cs[0]'(by omega), List.getElem?_eq_getElem _⟩
              obtain ⟨v, hv⟩ := this
              rw [hv] at h0
              simpa [Addr.add] using World.cell?_spot h0
          by_cases hl0 : len = 0
          · subst hl0
            refine key _ (by simpa using hr2 0 (by omega)) ?_
            rw [List.getElem?_eq_getElem (by omega)]; rfl
          · refine key _ (hel 0 (by omega)) ?_
            rw [List.getElem?_eq_getElem (by omega)]; rfl
        simp only [absD, relC]
        obtain ⟨css, hr, hc⟩ := rows_rel (g := g) (W := W) (es := P.cellsOf e) (b := a.block) (o := a.off) (absDs (elems.map (·.1))) (fun i v hv => by
          rw [absDs_map, List.map_map, List.getElem?_map, Option.map_eq_some_iff] at hv
          obtain ⟨y, hy, rfl⟩ := hv
          have hi : i < elems.length := (List.getElem?_eq_some_iff.1 hy).1
          have := hel i (by omega)
          rw [hy, Option.bind_eq_some_iff] at this
          obtain ⟨cs, hcs, ht⟩ := this
          obtain ⟨_, hcl, hcell⟩ := World.cells?_some hcs
          refine ⟨cs, hcl, plain_rel hg hsp n m e cs y hf.2 ht, fun j hj => ?_⟩
          rw [← hcell j hj]
          congr 1
          unfold Addr.add
          obtain ⟨b, o, sp⟩ := a
          dsimp only at hs; subst hs
          split <;> split <;> simp_all <;> omega)
        refine ⟨some a, some (a.block, a.off), cap, P.cellsOf e, css, by simp [absDs_map, hlen], .inl ?_, hr, ?_, ?_, (fun h => by cases h), (fun b o hbo => ?_), trivial⟩
        · obtain ⟨b, o, sp⟩ := a
          dsimp only at hs; subst hs
          rfl
        · simpa [absDs_map, hlen] using hl
        · have h2 : maxLen ≤ maxL := by decide
          omega
        · simp only [Option.some.injEq, Prod.mk.injEq] at hbo
          obtain ⟨rfl, rfl⟩ := hbo
          rcases rd_of hc with h0 | h0
          · exact .inl h0
          · refine .inr ⟨h0, .inl ?_⟩
            obtain ⟨c, el, fr, hcc, _⟩ := h0
            have := (Array.getElem?_eq_some_iff.1 hcc).1
            omega
    · rename_i fs hu
      simp only [Bool.and_eq_true, beq_iff_eq, bne_iff_ne, ne_eq, List.all_eq_true] at hf
      obtain ⟨⟨hne, hlaid⟩, hall⟩ := hf
      obtain ⟨xs, n', hn', rfl, hl, hxl, hx⟩ := DataW.trod_struct hu h
      cases hn'
      have hf := And.intro hlaid hall
      simp only [absD]
      rw [aggD_ne (by rw [absDs_map, List.length_map, List.length_map, hxl]; simpa using hne)]
      simp only [relC]
      exact parts_rel (g := g) (W := W) (enc := enc) (P := P) (n := n) (spare := spare) (held := held) (fun _ => True) (fun t => plainT P m t = true) (fun t cs x ht hx _ => plain_rel hg hsp n m t cs x ht hx) fs.toList xs 0 cs hf.1 hl (fun f hf' => hf.2 f hf') (fun _ _ => trivial) (by simpa using hxl) (fun i f hf' => by simpa using hx i f (by simpa using hf'))
    · rename_i k e hu
      obtain ⟨d, h1, h2⟩ := arr_of hu hf h
      rw [h1]; simp only [relC]; exact h2
    · cases hf

/-! ### What is known of an argument -/

mutual
def ShT (P : Program) : Nat → TypeId → AV → Prop
  | 0, _, _ => False
  | n + 1, t, v => match P.underlying t with
    | some .bool => ∃ b, v = .bool b
    | some (.int k) => ∃ i, v = .int k i ∧ k.min ≤ i ∧ i ≤ k.max
    | some .string => ∃ s, v = .str s
    | some (.slice e) => ∃ tk xs, v = .slice tk xs ∧ ∀ x ∈ xs, ShT P n e x
    | some (.struct fs) => ∃ ps, v = .agg ps ∧ ShTs P n fs.toList ps
    | some (.array _ _) => ∃ d, v = .dig d
    | _ => False
def ShTs (P : Program) : Nat → List Field → List AV → Prop
  | _, [], [] => True
  | 0, _, _ => False
  | n + 1, f :: fs, p :: ps => ShT P n f.type p ∧ ShTs P n fs ps
  | _, _, _ => False
end

def ShAll (P : Program) (n : Nat) : List TypeId → List AV → Prop
  | [], [] => True
  | t :: ts, v :: vs => ShT P n t v ∧ ShAll P n ts vs
  | _, _ => False

mutual
def shOk (P : Program) : Nat → TypeId → Bool
  | 0, _ => false
  | n + 1, t => match P.underlying t with
    | some .bool => true
    | some (.int _) => true
    | some .string => true
    | some (.slice e) => shOk P n e
    | some (.struct fs) => fs.size != 32 && shOks P n fs.toList
    | some (.array k e) => arr32 P t k e
    | _ => false
def shOks (P : Program) : Nat → List Field → Bool
  | _, [] => true
  | 0, _ => false
  | n + 1, f :: fs => shOk P n f.type && shOks P n fs
end

theorem wf_range {k : IntKind} {n : Int} (h : (Lit.int k n).wf = true) : k.min ≤ n ∧ n ≤ k.max := by
  simpa [Lit.wf] using h

mutual
theorem sh_of {held : Bool} {spare : Nat → Bool} : ∀ (n m : Nat) (t : TypeId) (cs : List Value) (x : DataW H × List MemPlace), shOk P m t = true → DataW.trod enc P W 0 spare held n t cs = some x → ShT P m t (absD x.1)
  | 0, m, t, cs, x, hf, h => by simp [DataW.trod] at h
  | n + 1, 0, t, cs, x, hf, h => by simp [shOk] at hf
  | n + 1, m + 1, t, cs, x, hf, h => by
    unfold shOk at hf; unfold ShT
    split at hf
    · rename_i hu; obtain ⟨b, rfl, rfl⟩ := DataW.trod_bool hu h; simp [absD, hu]
    · rename_i hu; obtain ⟨b, rfl, rfl, hw⟩ := DataW.trod_int hu h; simp only [absD, hu]; exact ⟨_, rfl, wf_range hw⟩
    · rename_i hu; obtain ⟨s, rfl, rfl, hs⟩ := DataW.trod_string hu h; simp [absD, hu]
    · rename_i e hu
      try simp only [hu]
      rcases DataW.trod_slice hu h with ⟨rfl, rfl⟩ | ⟨a, len, cap, elems, rest, n', hn', rfl, rfl, hb, hl, hm, hlen, hel, -, -⟩
      · simp only [absD]; exact ⟨_, _, rfl, fun x hx => by simp at hx⟩
      · cases hn'
        simp only [absD, absDs_map]
        refine ⟨_, _, rfl, fun v hv => ?_⟩
        rw [List.map_map] at hv
        obtain ⟨y, hy, rfl⟩ := List.mem_map.1 hv
        obtain ⟨i, hi⟩ := List.mem_iff_getElem?.1 hy
        have hlt := (List.getElem?_eq_some_iff.1 hi).1
        have := hel i (by omega)
        rw [hi, Option.bind_eq_some_iff] at this
        obtain ⟨cs', _, ht⟩ := this
        exact sh_of n m e cs' y hf ht
    · rename_i fs hu
      try simp only [hu]
      simp only [Bool.and_eq_true, bne_iff_ne, ne_eq] at hf
      obtain ⟨hne, hf⟩ := hf
      obtain ⟨xs, n', hn', rfl, hl, hxl, hx⟩ := DataW.trod_struct hu h
      cases hn'
      simp only [absD]
      rw [aggD_ne (by rw [absDs_map, List.length_map, List.length_map, hxl]; simpa using hne)]
      exact ⟨_, rfl, shs_of n m fs.toList xs cs hf (by simpa using hxl) (fun i f hf' => hx i f (by simpa using hf'))⟩
    · rename_i k e hu
      try simp only [hu]
      obtain ⟨d, h1, h2⟩ := arr_of hu hf h
      exact ⟨d, h1⟩
    · cases hf
theorem shs_of {held : Bool} {spare : Nat → Bool} : ∀ (n m : Nat) (fs : List Field) (xs : List (DataW H × List MemPlace)) (cs : List Value), shOks P m fs = true → xs.length = fs.length →
    (∀ (i : Nat) (f : Field), fs[i]? = some f → DataW.trod enc P W 0 spare held n f.type ((cs.drop f.offset).take (P.cellsOf f.type)) = xs[i]?) → ShTs P m fs (absDs (xs.map (·.1)))
  | n, m, [], [], cs, hf, hl, h => by cases m <;> simp [absDs, ShTs]
  | n, m, [], x :: xs, cs, hf, hl, h => by simp at hl
  | n, m, f :: fs, [], cs, hf, hl, h => by simp at hl
  | n, 0, f :: fs, x :: xs, cs, hf, hl, h => by simp [shOks] at hf
  | n, m + 1, f :: fs, x :: xs, cs, hf, hl, h => by
    simp only [shOks, Bool.and_eq_true] at hf
    simp only [List.map_cons, absDs, ShTs]
    have h0 := h 0 f rfl
    exact ⟨sh_of n m f.type _ x hf.1 h0, shs_of n m fs xs cs hf.2 (by simpa using hl) (fun i f hf => by simpa using h (i + 1) f (by simpa using hf))⟩
end

theorem ok_agg {b : Nat} {m : Nat} {t : TypeId} {v : Value} {x : AV} (hp : shOk P m t = true) (hs : ShT P m t x) (h : Value.okWide P W .any b t v) : x.isAgg = vAgg v := by
  cases m with
  | zero => simp [shOk] at hp
  | succ m =>
    unfold Value.okWide at h
    unfold ShT at hs
    unfold shOk at hp
    split at hp
    · rename_i hu; simp only [hu] at hs h; obtain ⟨_, rfl⟩ := hs; unfold Cell.okWide at h; cases v <;> simp_all [Cell.ok, vAgg, AV.isAgg]
    · rename_i hu; simp only [hu] at hs h; obtain ⟨_, rfl, _⟩ := hs; unfold Cell.okWide at h; cases v <;> simp_all [Cell.ok, vAgg, AV.isAgg]
    · rename_i hu; simp only [hu] at hs h; obtain ⟨_, rfl⟩ := hs; unfold Cell.okWide at h; cases v <;> simp_all [Cell.ok, vAgg, AV.isAgg]
    · rename_i hu; simp only [hu] at hs h; obtain ⟨_, _, rfl, _⟩ := hs; unfold Cell.okWide at h; cases v <;> simp_all [Cell.ok, vAgg, AV.isAgg]
    · rename_i hu; simp only [hu] at hs h; obtain ⟨_, rfl, _⟩ := hs; obtain ⟨cs, rfl, _⟩ := h; simp [AV.isAgg, vAgg]
    · rename_i hu; simp only [hu] at hs h; obtain ⟨_, rfl⟩ := hs; obtain ⟨cs, rfl, _⟩ := h; simp [AV.isAgg, vAgg]
    · cases hp


theorem args_stay {W' : World} (hl : laidOutB P = true) (hb : Below W.heap.size W W') : ∀ (ts : List TypeId) (vs : List Value) (ds : List (DataW H)) (ps : List MemPlace), (ts.all fun t => P.readableRec t && decide (t < P.types.size)) = true →
    DataW.TrodAll enc P W 0 (fun _ => true) true ts vs ds ps → DataW.TrodAll enc P W' 0 (fun b => decide (b < W.heap.size)) true ts vs ds ps
  | [], [], [], ps, hp, h => h
  | t :: ts, v :: vs, d :: ds, ps, hp, h => by
    obtain ⟨p, q, hd, hr, rfl⟩ := h
    simp only [List.all_cons, Bool.and_eq_true, decide_eq_true_eq] at hp
    refine ⟨p, q, Below.trod hl hp.1.1 hp.1.2 hd hb ?_, args_stay hl hb ts vs ds q hp.2 hr, rfl⟩
    obtain ⟨m, hm⟩ := hd
    exact DataW.trod_lt m _ _ _ hm
  | [], _ :: _, _, _, _, h => h.elim
  | [], [], _ :: _, _, _, h => h.elim
  | _ :: _, [], _, _, _, h => h.elim
  | _ :: _, _ :: _, [], _, _, h => h.elim

theorem trodAll_len : ∀ (ts : List TypeId) (vs : List Value) (ds : List (DataW H)) (ps : List MemPlace) {sp : Nat → Bool}, DataW.TrodAll enc P W 0 sp true ts vs ds ps → ds.length = ts.length
  | [], [], [], ps, sp, h => rfl
  | t :: ts, v :: vs, d :: ds, ps, sp, h => by
    obtain ⟨p, q, hd, hr, rfl⟩ := h
    simp [trodAll_len ts vs ds q hr]
  | [], _ :: _, _, _, _, h => h.elim
  | [], [], _ :: _, _, _, h => h.elim
  | _ :: _, [], _, _, _, h => h.elim
  | _ :: _, _ :: _, [], _, _, h => h.elim

theorem trodVars_nil {gs : List (DataW H)} {q : List MemPlace} (h : DataW.TrodVars enc P W (fun _ => true) [] gs q) : gs = [] ∧ q = [] := by
  cases gs with
  | nil => exact ⟨rfl, h⟩
  | cons d r => exact h.elim

theorem shAll_nil {n : Nat} {vs : List AV} (h : ShAll P n [] vs) : vs = [] := by
  cases vs with
  | nil => rfl
  | cons _ _ => exact h.elim
theorem shAll_cons {n : Nat} {t : TypeId} {ts : List TypeId} {vs : List AV} (h : ShAll P n (t :: ts) vs) : ∃ v r, vs = v :: r ∧ ShT P n t v ∧ ShAll P n ts r := by
  cases vs with
  | nil => exact h.elim
  | cons v r => exact ⟨v, r, rfl, h.1, h.2⟩
theorem sh_int {n : Nat} {t : TypeId} {k : IntKind} {v : AV} (hu : P.underlying t = some (.int k)) (h : ShT P (n + 1) t v) : ∃ i, v = .int k i ∧ k.min ≤ i ∧ i ≤ k.max := by
  unfold ShT at h; rw [hu] at h; exact h
theorem sh_str {n : Nat} {t : TypeId} {v : AV} (hu : P.underlying t = some .string) (h : ShT P (n + 1) t v) : ∃ s, v = .str s := by
  unfold ShT at h; rw [hu] at h; exact h
theorem sh_slice {n : Nat} {t e : TypeId} {v : AV} (hu : P.underlying t = some (.slice e)) (h : ShT P (n + 1) t v) : ∃ tk xs, v = .slice tk xs ∧ ∀ x ∈ xs, ShT P n e x := by
  unfold ShT at h; rw [hu] at h; exact h
theorem sh_struct {n : Nat} {t : TypeId} {fs : Array Field} {v : AV} (hu : P.underlying t = some (.struct fs)) (h : ShT P (n + 1) t v) : ∃ ps, v = .agg ps ∧ ShTs P n fs.toList ps := by
  unfold ShT at h; rw [hu] at h; exact h
theorem shTs_nil {n : Nat} {ps : List AV} (h : ShTs P n [] ps) : ps = [] := by
  cases ps with
  | nil => rfl
  | cons _ _ => cases n <;> exact h.elim
theorem shTs_cons {n : Nat} {f : Field} {fs : List Field} {ps : List AV} (h : ShTs P (n + 1) (f :: fs) ps) : ∃ p r, ps = p :: r ∧ ShT P n f.type p ∧ ShTs P n fs r := by
  cases ps with
  | nil => exact h.elim
  | cons p r => exact ⟨p, r, rfl, h.1, h.2⟩
theorem map_of {α : Type} {f : α → AV} {p : α → Prop} : ∀ {xs : List AV}, (∀ x ∈ xs, ∃ a, x = f a ∧ p a) → ∃ l : List α, xs = l.map f ∧ ∀ a ∈ l, p a
  | [], h => ⟨[], rfl, by simp⟩
  | x :: r, h => by
    obtain ⟨a, ha, hp⟩ := h x (by simp)
    obtain ⟨l, hl, hq⟩ := map_of (xs := r) fun y hy => h y (by simp [hy])
    exact ⟨a :: l, by simp [ha, hl], by simpa using ⟨hp, hq⟩⟩

end Go.Aff

namespace Go.Aff

variable {P : Program} {σ σ' : AST} {K : AV → AST → Prop} {KV : AV → Prop} {g g' : G} {w w' : World}

mutual
def AV.strip : AV → AV
  | .slice .full [] => .slice .full []
  | .slice _ xs => .slice .none (AV.strips xs)
  | .eptr v => .eptr v.strip
  | .agg ps => .agg (AV.strips ps)
  | .tuple vs => .tuple (AV.strips vs)
  | .iface t v => .iface t v.strip
  | .fn f a b => .fn f (AV.strips a) (AV.strips b)
  | v => v
def AV.strips : List AV → List AV
  | [] => []
  | v :: r => v.strip :: AV.strips r
end

mutual
def AV.noRef : AV → Bool
  | .ptr (some _) => false
  | .mp (some _) => false
  | .arr _ _ _ => false
  | .slice _ xs => AV.noRefs xs
  | .eptr v => v.noRef
  | .agg ps => AV.noRefs ps
  | .tuple vs => AV.noRefs vs
  | .iface _ v => v.noRef
  | .fn _ a b => AV.noRefs a && AV.noRefs b
  | _ => true
def AV.noRefs : List AV → Bool
  | [] => true
  | v :: r => v.noRef && AV.noRefs r
end

theorem strips_length : ∀ (l : List AV), (AV.strips l).length = l.length
  | [] => rfl
  | v :: r => by simp [AV.strips, strips_length r]

theorem strip_isAgg (v : AV) : v.strip.isAgg = v.isAgg := by
  unfold AV.strip; split <;> simp_all [AV.isAgg]

def G.cut (g : G) (n m : Nat) : G := { g with objs := g.objs.take n, toks := g.toks.take m }

mutual
theorem relC_strip {n m : Nat} : ∀ {v : AV} {cs : List Value}, v.noRef = true → relC g w v cs → relC (g.cut n m) w v.strip cs
  | .undef, cs, hn, h | .bool _, cs, hn, h | .int _ _, cs, hn, h | .str _, cs, hn, h | .nilFn, cs, hn, h | .lit _, cs, hn, h | .nilIface, cs, hn, h | .ptr none, cs, hn, h | .mp none, cs, hn, h | .dig _, cs, hn, h => by
    simp only [AV.strip, relC] at h ⊢; exact h
  | .ptr (some _), cs, hn, h | .mp (some _), cs, hn, h | .arr _ _ _, cs, hn, h => by simp [AV.noRef] at hn
  | .slice tk xs, cs, hn, h => by
    simp only [AV.noRef] at hn
    simp only [relC] at h
    obtain ⟨ad, a, c, es, css, rfl, had, hes, h1, h2, h3, h4, h5⟩ := h
    have key : relC (g.cut n m) w (.slice .none (AV.strips xs)) [.slice ad xs.length c] := by
      simp only [relC]
      exact ⟨ad, a, c, es, css, by rw [strips_length], had, relEs_strip hn hes, by rw [strips_length]; exact h1, h2, h3, h4, trivial⟩
    unfold AV.strip
    split
    · rename_i h; cases h
      simp only [relC]
      exact ⟨ad, a, c, es, css, rfl, had, by simpa [relEs] using hes, h1, h2, h3, h4, h5⟩
    · rename_i h; cases h; exact key
    all_goals simp_all
  | .eptr v, cs, hn, h => by
    simp only [AV.noRef] at hn
    simp only [AV.strip, relC] at h ⊢
    obtain ⟨b, o, cv, h1, h2, h3, h4⟩ := h
    exact ⟨b, o, cv, h1, relC_strip hn h2, h3, h4⟩
  | .agg ps, cs, hn, h => by
    simp only [AV.noRef] at hn
    simp only [AV.strip, relC] at h ⊢
    exact relPs_strip hn h
  | .iface t v, cs, hn, h => by
    simp only [AV.noRef] at hn
    simp only [AV.strip, relC] at h ⊢
    obtain ⟨x, h1, h2, h3⟩ := h
    exact ⟨x, h1, relC_strip hn h2, by rw [strip_isAgg]; exact h3⟩
  | .fn f a b, cs, hn, h => by
    simp only [AV.noRef, Bool.and_eq_true] at hn
    simp only [AV.strip, relC] at h ⊢
    obtain ⟨x, y, h1, h2, h3⟩ := h
    exact ⟨x, y, h1, relVs_strip hn.1 h2, relVs_strip hn.2 h3⟩
  | .tuple _, cs, hn, h => by simp [relC] at h
theorem relPs_strip {n m : Nat} : ∀ {ps : List AV} {cs : List Value}, AV.noRefs ps = true → relPs g w ps cs → relPs (g.cut n m) w (AV.strips ps) cs
  | [], cs, hn, h => by simp only [AV.strips, relPs] at h ⊢; exact h
  | p :: ps, cs, hn, h => by
    simp only [AV.noRefs, Bool.and_eq_true] at hn
    simp only [AV.strips, relPs] at h ⊢
    obtain ⟨c1, c2, h1, h2, h3⟩ := h
    exact ⟨c1, c2, h1, relC_strip hn.1 h2, relPs_strip hn.2 h3⟩
theorem relEs_strip {n m es : Nat} : ∀ {ps : List AV} {cs : List Value}, AV.noRefs ps = true → relEs g w es ps cs → relEs (g.cut n m) w es (AV.strips ps) cs
  | [], cs, hn, h => by simp only [AV.strips, relEs] at h ⊢; exact h
  | p :: ps, cs, hn, h => by
    simp only [AV.noRefs, Bool.and_eq_true] at hn
    simp only [AV.strips, relEs] at h ⊢
    obtain ⟨c1, c2, h1, h0, h2, h3⟩ := h
    exact ⟨c1, c2, h1, h0, relC_strip hn.1 h2, relEs_strip hn.2 h3⟩
theorem relVs_strip {n m : Nat} : ∀ {vs : List AV} {l : List Value}, AV.noRefs vs = true → relVs g w vs l → relVs (g.cut n m) w (AV.strips vs) l
  | [], l, hn, h => by simp only [AV.strips, relVs] at h ⊢; exact h
  | v :: vs, l, hn, h => by
    simp only [AV.noRefs, Bool.and_eq_true] at hn
    simp only [AV.strips, relVs] at h ⊢
    obtain ⟨x, r, h1, h2, h3, h4⟩ := h
    exact ⟨x, r, h1, relC_strip hn.1 h2, by rw [strip_isAgg]; exact h3, relVs_strip hn.2 h4⟩
end

theorem relV_strip {n m : Nat} {v : AV} {x : Value} (hn : v.noRef = true) (h : relV g w v x) : relV (g.cut n m) w v.strip x := by
  rcases h with rfl | ⟨vs, a, rfl, rfl, h⟩ | ⟨h1, h2⟩
  · exact .inl rfl
  · simp only [AV.noRef] at hn
    refine .inr (.inl ⟨AV.strips vs, a, by simp [AV.strip], rfl, relVs_strip hn h⟩)
  · exact .inr (.inr ⟨relC_strip hn h1, by rw [strip_isAgg]; exact h2⟩)

mutual
def AV.small (n m : Nat) : AV → Prop
  | .ptr (some q) => q.1 < n
  | .mp (some i) => i < n
  | .arr i _ _ => i < n
  | .slice tk xs => (∀ t, tk = .own t → t < m) ∧ AV.smalls n m xs
  | .eptr v => v.small n m
  | .agg ps => AV.smalls n m ps
  | .iface _ v => v.small n m
  | .fn _ a b => AV.smalls n m a ∧ AV.smalls n m b
  | _ => True
def AV.smalls (n m : Nat) : List AV → Prop
  | [] => True
  | v :: r => v.small n m ∧ AV.smalls n m r
end

mutual
theorem relC_small : ∀ {v : AV} {cs : List Value}, relC g w v cs → v.small g.objs.length g.toks.length
  | .undef, cs, h | .bool _, cs, h | .int _ _, cs, h | .str _, cs, h | .nilFn, cs, h | .lit _, cs, h | .nilIface, cs, h | .ptr none, cs, h | .mp none, cs, h | .dig _, cs, h | .tuple _, cs, h => by simp only [AV.small]
  | .ptr (some (i, p)), cs, h => by
    simp only [relC] at h; obtain ⟨b, sh, o, h1, _⟩ := h
    simp only [AV.small]; exact (List.getElem?_eq_some_iff.1 h1).1
  | .mp (some i), cs, h => by
    simp only [relC] at h; obtain ⟨b, sh, h1, _⟩ := h
    simp only [AV.small]; exact (List.getElem?_eq_some_iff.1 h1).1
  | .arr i p n, cs, h => by
    simp only [relC] at h; obtain ⟨b, sh, o, c, h1, _⟩ := h
    simp only [AV.small]; exact (List.getElem?_eq_some_iff.1 h1).1
  | .slice tk xs, cs, h => by
    simp only [relC] at h
    obtain ⟨ad, a, c, es, css, rfl, had, hes, h1, h2, h3, h4, h5⟩ := h
    simp only [AV.small]
    refine ⟨fun t ht => ?_, relEs_small hes⟩
    subst ht; obtain ⟨e, he, _⟩ := h5; exact (List.getElem?_eq_some_iff.1 he).1
  | .eptr v, cs, h => by
    simp only [relC] at h; obtain ⟨b, o, cv, h1, h2, h3, h4⟩ := h
    simp only [AV.small]; exact relC_small h2
  | .agg ps, cs, h => by simp only [relC] at h; simp only [AV.small]; exact relPs_small h
  | .iface t v, cs, h => by simp only [relC] at h; obtain ⟨x, h1, h2, h3⟩ := h; simp only [AV.small]; exact relC_small h2
  | .fn f a b, cs, h => by simp only [relC] at h; obtain ⟨x, y, h1, h2, h3⟩ := h; simp only [AV.small]; exact ⟨relVs_small h2, relVs_small h3⟩
theorem relPs_small : ∀ {ps : List AV} {cs : List Value}, relPs g w ps cs → AV.smalls g.objs.length g.toks.length ps
  | [], cs, h => by simp only [AV.smalls]
  | p :: ps, cs, h => by simp only [relPs] at h; obtain ⟨c1, c2, h1, h2, h3⟩ := h; simp only [AV.smalls]; exact ⟨relC_small h2, relPs_small h3⟩
theorem relEs_small {es : Nat} : ∀ {ps : List AV} {cs : List Value}, relEs g w es ps cs → AV.smalls g.objs.length g.toks.length ps
  | [], cs, h => by simp only [AV.smalls]
  | p :: ps, cs, h => by simp only [relEs] at h; obtain ⟨c1, c2, h1, h0, h2, h3⟩ := h; simp only [AV.smalls]; exact ⟨relC_small h2, relEs_small h3⟩
theorem relVs_small : ∀ {vs : List AV} {l : List Value}, relVs g w vs l → AV.smalls g.objs.length g.toks.length vs
  | [], l, h => by simp only [AV.smalls]
  | v :: vs, l, h => by simp only [relVs] at h; obtain ⟨x, r, h1, h2, h3, h4⟩ := h; simp only [AV.smalls]; exact ⟨relC_small h2, relVs_small h4⟩
end

mutual
theorem relC_cut {n m : Nat} : ∀ {v : AV} {cs : List Value}, v.small n m → relC g w v cs → relC (g.cut n m) w v cs
  | .undef, cs, hn, h | .bool _, cs, hn, h | .int _ _, cs, hn, h | .str _, cs, hn, h | .nilFn, cs, hn, h | .lit _, cs, hn, h | .nilIface, cs, hn, h | .ptr none, cs, hn, h | .mp none, cs, hn, h | .dig _, cs, hn, h => by
    simp only [relC] at h ⊢; exact h
  | .ptr (some (i, p)), cs, hn, h => by
    simp only [AV.small] at hn
    simp only [relC] at h ⊢; obtain ⟨b, sh, o, h1, h2⟩ := h
    exact ⟨b, sh, o, by simp only [G.cut, List.getElem?_take]; rw [if_pos hn]; exact h1, h2⟩
  | .mp (some i), cs, hn, h => by
    simp only [AV.small] at hn
    simp only [relC] at h ⊢; obtain ⟨b, sh, h1, h2⟩ := h
    exact ⟨b, sh, by simp only [G.cut, List.getElem?_take]; rw [if_pos hn]; exact h1, h2⟩
  | .arr i p k, cs, hn, h => by
    simp only [AV.small] at hn
    simp only [relC] at h ⊢; obtain ⟨b, sh, o, c, h1, h2⟩ := h
    exact ⟨b, sh, o, c, by simp only [G.cut, List.getElem?_take]; rw [if_pos hn]; exact h1, h2⟩
  | .slice tk xs, cs, hn, h => by
    simp only [AV.small] at hn
    simp only [relC] at h ⊢
    obtain ⟨ad, a, c, es, css, rfl, had, hes, h1, h2, h3, h4, h5⟩ := h
    refine ⟨ad, a, c, es, css, rfl, had, relEs_cut hn.2 hes, h1, h2, h3, h4, ?_⟩
    cases tk with
    | none => trivial
    | full => exact h5
    | lit => exact h5
    | own t =>
      obtain ⟨e, he, h6⟩ := h5
      exact ⟨e, by simp only [G.cut, List.getElem?_take]; rw [if_pos (hn.1 t rfl)]; exact he, h6⟩
  | .eptr v, cs, hn, h => by
    simp only [AV.small] at hn
    simp only [relC] at h ⊢
    obtain ⟨b, o, cv, h1, h2, h3, h4⟩ := h
    exact ⟨b, o, cv, h1, relC_cut hn h2, h3, h4⟩
  | .agg ps, cs, hn, h => by
    simp only [AV.small] at hn
    simp only [relC] at h ⊢
    exact relPs_cut hn h
  | .iface t v, cs, hn, h => by
    simp only [AV.small] at hn
    simp only [relC] at h ⊢
    obtain ⟨x, h1, h2, h3⟩ := h
    exact ⟨x, h1, relC_cut hn h2, h3⟩
  | .fn f a b, cs, hn, h => by
    simp only [AV.small] at hn
    simp only [relC] at h ⊢
    obtain ⟨x, y, h1, h2, h3⟩ := h
    exact ⟨x, y, h1, relVs_cut hn.1 h2, relVs_cut hn.2 h3⟩
  | .tuple _, cs, hn, h => by simp [relC] at h
theorem relPs_cut {n m : Nat} : ∀ {ps : List AV} {cs : List Value}, AV.smalls n m ps → relPs g w ps cs → relPs (g.cut n m) w ps cs
  | [], cs, hn, h => by simp only [relPs] at h ⊢; exact h
  | p :: ps, cs, hn, h => by
    simp only [AV.smalls] at hn
    simp only [relPs] at h ⊢
    obtain ⟨c1, c2, h1, h2, h3⟩ := h
    exact ⟨c1, c2, h1, relC_cut hn.1 h2, relPs_cut hn.2 h3⟩
theorem relEs_cut {n m es : Nat} : ∀ {ps : List AV} {cs : List Value}, AV.smalls n m ps → relEs g w es ps cs → relEs (g.cut n m) w es ps cs
  | [], cs, hn, h => by simp only [relEs] at h ⊢; exact h
  | p :: ps, cs, hn, h => by
    simp only [AV.smalls] at hn
    simp only [relEs] at h ⊢
    obtain ⟨c1, c2, h1, h0, h2, h3⟩ := h
    exact ⟨c1, c2, h1, h0, relC_cut hn.1 h2, relEs_cut hn.2 h3⟩
theorem relVs_cut {n m : Nat} : ∀ {vs : List AV} {l : List Value}, AV.smalls n m vs → relVs g w vs l → relVs (g.cut n m) w vs l
  | [], l, hn, h => by simp only [relVs] at h ⊢; exact h
  | v :: vs, l, hn, h => by
    simp only [AV.smalls] at hn
    simp only [relVs] at h ⊢
    obtain ⟨x, r, h1, h2, h3, h4⟩ := h
    exact ⟨x, r, h1, relC_cut hn.1 h2, h3, relVs_cut hn.2 h4⟩
end

def Ext (σ σ' : AST) : Prop := ∃ O T, σ' = ⟨σ.objs ++ O, σ.toks ++ T⟩

theorem Ext.refl (σ : AST) : Ext σ σ := ⟨[], [], by simp⟩
theorem Ext.trans {a b c : AST} (h : Ext a b) (k : Ext b c) : Ext a c := by
  obtain ⟨O, T, rfl⟩ := h; obtain ⟨O', T', rfl⟩ := k; exact ⟨O ++ O', T ++ T', by simp⟩
theorem Ext.push (σ : AST) (o : AObj) : Ext σ (σ.push o) := ⟨[o], [], by simp [AST.push]⟩
theorem Ext.tok (σ : AST) (n es : Nat) : Ext σ (σ.tok n es) := ⟨[], [(n, es)], by simp [AST.tok]⟩
theorem Ext.setTok {σ σ' : AST} (h : Ext σ σ') {t n es : Nat} (ht : σ.toks.length ≤ t) : Ext σ (σ'.setTok t n es) := by
  obtain ⟨O, T, rfl⟩ := h
  exact ⟨O, T.set (t - σ.toks.length) (n, es), by simp only [AST.setTok]; rw [List.set_append]; simp [show ¬ t < σ.toks.length by omega]⟩
theorem Ext.set {σ σ' : AST} (h : Ext σ σ') {i : Nat} {o : AObj} (hi : σ.objs.length ≤ i) : Ext σ (σ'.set i o) := by
  obtain ⟨O, T, rfl⟩ := h
  exact ⟨O.set (i - σ.objs.length) o, T, by simp only [AST.set]; rw [List.set_append]; simp [show ¬ i < σ.objs.length by omega]⟩

theorem inv_cut (hI0 : Inv g σ w) (hE : Ev g w g' w') (hI : Inv g' σ' w') (hx : Ext σ σ') : Inv (g'.cut σ.objs.length σ.toks.length) σ w' ∧ Ev g w (g'.cut σ.objs.length σ.toks.length) w' := by
  obtain ⟨O, T, rfl⟩ := hx
  have hn := hI.nobj
  have ht := hI.ntok
  simp only [List.length_append] at hn ht
  have objs : ∀ {i : Nat} {o : AObj}, σ.objs[i]? = some o → (σ.objs ++ O)[i]? = some o ∧ ∀ x, g'.objs[i]? = some x → (g'.cut σ.objs.length σ.toks.length).objs[i]? = some x := by
    intro i o h
    have hlt := (List.getElem?_eq_some_iff.1 h).1
    exact ⟨by rw [List.getElem?_append_left hlt]; exact h, fun x hx => by simp [G.cut, List.getElem?_take, hlt, hx]⟩
  have uncut : ∀ {i : Nat} {x}, (g'.cut σ.objs.length σ.toks.length).objs[i]? = some x → g'.objs[i]? = some x := by
    intro i x h; simp only [G.cut, List.getElem?_take] at h; split at h
    · exact h
    · cases h
  have unt : ∀ {i : Nat} {x}, (g'.cut σ.objs.length σ.toks.length).toks[i]? = some x → g'.toks[i]? = some x ∧ i < σ.toks.length := by
    intro i x h; simp only [G.cut, List.getElem?_take] at h; split at h
    · rename_i hh; exact ⟨h, hh⟩
    · cases h
  constructor
  · refine ⟨hI.base, ?_, ?_, ?_, hI.rows, ?_, ?_, ?_⟩
    · simp [G.cut]; omega
    · intro i o ho hl
      obtain ⟨h1, h2⟩ := objs ho
      obtain ⟨b, sh, hg, hb, hlim, hin⟩ := hI.obj i o h1 hl
      refine ⟨b, sh, h2 _ hg, hb, hlim, ?_⟩
      obtain ⟨b0, sh0, hg0, hb0, hlim0, hin0⟩ := hI0.obj i o ho hl
      have hgl : g.objs.length = σ.objs.length := hI0.nobj.symm
      have htl : g.toks.length = σ.toks.length := hI0.ntok.symm
      cases o with
      | gone => trivial
      | pin l o vs xs =>
        refine ⟨hin.1, hin.2.1, fun i v x h1 h2 => ?_⟩
        rcases hin.2.2 i v x h1 h2 with h | ⟨a1, a2⟩
        · exact .inl h
        · rcases hin0.2.2 i v x h1 h2 with h | ⟨b1, b2⟩
          · exact .inl h
          · have s1 := relC_small b1
            rw [hgl, htl] at s1
            exact .inr ⟨relC_cut s1 a1, a2⟩
      | cells v =>
        obtain ⟨_, _, _, _, _, hr0, _⟩ := hin0
        obtain ⟨c, e, fr, hc, hf, hr, hs⟩ := hin
        have := relC_small hr0
        rw [hgl, htl] at this
        exact ⟨c, e, fr, hc, hf, relC_cut this hr, hs⟩
      | map es ck =>
        obtain ⟨me0, hm0, hl0, hes0, _⟩ := hin0
        obtain ⟨me, hm, hl', hes, hbn, hinj⟩ := hin
        refine ⟨me, hm, hl', fun i e m hk hmm => ?_, hbn, hinj⟩
        have hi : i < es.length := (List.getElem?_eq_some_iff.1 hk).1
        obtain ⟨a0, a1, a2⟩ := hes i e m hk hmm
        obtain ⟨b0, b1, b2⟩ := hes0 i e me0[i] hk (by rw [Array.getElem?_eq_getElem (by omega)])
        have s1 := relC_small b1.1
        have s2 := relC_small b2.1
        rw [hgl, htl] at s1 s2
        exact ⟨a0, ⟨relC_cut s1 a1.1, a1.2⟩, ⟨relC_cut s2 a2.1, a2.2⟩⟩
    · intro i j o o' b sh sh' hi hj hl hl' hgi hgj
      exact hI.inj i j o o' b sh sh' (objs hi).1 (objs hj).1 hl hl' (uncut hgi) (uncut hgj)
    · simp [G.cut]; omega
    · intro t e he
      obtain ⟨h1, h2⟩ := unt he
      obtain ⟨a, b⟩ := hI.tok t e h1
      refine ⟨by rw [← a]; simp [List.getElem?_append_left h2], b⟩
    · intro t u e e' b o o' h1 h2
      exact hI.tinj t u e e' b o o' (unt h1).1 (unt h2).1
  · refine ⟨hE.os, hE.tape, hE.output, hE.size, hE.base, hE.old, ?_, hE.lim, ?_⟩
    · intro i x h
      have := (List.getElem?_eq_some_iff.1 h).1
      have h2 := hI0.nobj
      simp only [G.cut, List.getElem?_take]; rw [if_pos (by omega)]; exact hE.objs i x h
    · intro t e h
      have := (List.getElem?_eq_some_iff.1 h).1
      have h2 := hI0.ntok
      obtain ⟨e', h3, h4⟩ := hE.toks t e h
      exact ⟨e', by simp only [G.cut, List.getElem?_take]; rw [if_pos (by omega)]; exact h3, h4⟩

theorem TCalls.drop {f : FuncId} {args : List AV} (h : TCalls P f args σ fun v σ' => Ext σ σ' ∧ v.noRef = true ∧ K v.strip σ) : TCalls P f args σ K :=
  ⟨h.1, fun g w xs hI hr => (h.2 g w xs hI hr).mono fun e w' ⟨x, g', v, σ', he, h1, h2, h3, h4, h5, h6⟩ =>
    ⟨x, _, v.strip, σ, he, (inv_cut hI h1 h2 h4).2, (inv_cut hI h1 h2 h4).1, relV_strip h5 h3, h6⟩⟩

/-! ### Appending -/

def canApp (σ : AST) (tk : Tk) (n es : Nat) : Prop := match tk with
  | .full => True
  | .own k => σ.toks[k]? = some (n, es)
  | .none | .lit => False
def growT (σ : AST) : Tk → Tk
  | .full => .own σ.toks.length
  | tk => tk
def growS (σ : AST) (tk : Tk) (n es : Nat) : AST := match tk with
  | .full => σ.tok n es
  | .own k => σ.setTok k n es
  | .none | .lit => σ

theorem growT_growS {σ : AST} {tk : Tk} {n es : Nat} : growT (growS σ tk n es) (growT σ tk) = growT σ tk := by
  cases tk <;> rfl
theorem growS_growS {σ : AST} {tk : Tk} {n m n0 es es0 : Nat} (h : canApp σ tk n0 es0) : growS (growS σ tk n es) (growT σ tk) m es = growS σ tk m es := by
  cases tk with
  | none => exact h.elim
  | lit => exact h.elim
  | full => simp [growS, growT, AST.setTok, AST.tok, List.set_append]
  | own k => simp [growS, growT, AST.setTok, List.set_set]
theorem canApp_grow {σ : AST} {tk : Tk} {n n0 es es0 : Nat} (h : canApp σ tk n0 es0) : canApp (growS σ tk n es) (growT σ tk) n es := by
  cases tk with
  | none => exact h.elim
  | lit => exact h.elim
  | full => simp [canApp, growS, growT, AST.tok]
  | own k =>
    have : k < σ.toks.length := (List.getElem?_eq_some_iff.1 h).1
    simp [canApp, growS, growT, AST.setTok, this]
theorem canFull {σ : AST} {n es : Nat} : canApp σ .full n es := trivial
theorem canGrow {σ : AST} {n es : Nat} : canApp (growS σ .full n es) (growT σ .full) n es := canApp_grow (n0 := 0) (es0 := 0) trivial
theorem growFull {σ : AST} {n m es : Nat} : growS (growS σ .full n es) (growT σ .full) m es = growS σ .full m es := growS_growS (n0 := 0) (es0 := 0) trivial
theorem Ext.grow {σ σ' : AST} (h : Ext σ σ') {tk : Tk} {n es : Nat} (ht : tk = .full ∨ ∃ k, tk = .own k ∧ σ.toks.length ≤ k) : Ext σ (growS σ' tk n es) := by
  rcases ht with rfl | ⟨k, rfl, hk⟩
  · exact h.trans (Ext.tok _ _ _)
  · exact h.setTok hk
def tkNew (σ : AST) (tk : Tk) : Prop := tk = .full ∨ ∃ k, tk = .own k ∧ σ.toks.length ≤ k
theorem Ext.toks_le {σ σ' : AST} (h : Ext σ σ') : σ.toks.length ≤ σ'.toks.length := by obtain ⟨O, T, rfl⟩ := h; simp
theorem tkNew.grow {σ s : AST} {tk : Tk} (h : tkNew σ tk) (hx : Ext σ s) : tkNew σ (growT s tk) := by
  rcases h with rfl | ⟨k, rfl, hk⟩
  · exact .inr ⟨_, rfl, hx.toks_le⟩
  · exact .inr ⟨k, rfl, hk⟩
theorem Ext.growFull (σ : AST) (n es : Nat) : Ext σ (growS σ .full n es) := Ext.tok _ _ _

end Go.Aff

namespace Go.Aff

open Go.RowKit Go.ChangeShapes Go.WideShapes Go.ChangeAt Go.ChangeMaps

variable {H : Type} {enc : TypeId × Value → H} {P : Program}
variable {g : G} {W : World}

theorem args_rel_n {N : Nat} (hg : W.heap.size ≤ g.base) {base : Nat} : ∀ (ts : List TypeId) (vs : List Value) (ds : List (DataW H)) (ps : List MemPlace), (ts.all fun t => plainT P N t && shOk P N t) = true →
    DataW.TrodAll enc P W 0 (fun _ => true) true ts vs ds ps → (∀ (j : Nat) t v, ts[j]? = some t → vs[j]? = some v → Value.okWide P W .any base t v) → relA g W (ds.map absD) vs ∧ ShAll P N ts (ds.map absD)
  | [], [], [], ps, hp, h, hv => ⟨⟨rfl, fun i v x h => by simp at h⟩, trivial⟩
  | t :: ts, v :: vs, d :: ds, ps, hp, h, hv => by
    obtain ⟨p, q, ⟨fuel, hd⟩, hr, rfl⟩ := h
    simp only [List.all_cons, Bool.and_eq_true] at hp
    have hok := hv 0 t v rfl rfl
    have h1 := plain_rel (g := g) hg (fun _ => rfl) fuel N t _ _ hp.1.1 hd
    have h2 := sh_of fuel N t _ _ hp.1.2 hd
    obtain ⟨⟨hl, hA⟩, hS⟩ := args_rel_n hg ts vs ds q hp.2 hr (fun j t v ht hv' => hv (j + 1) t v (by simpa using ht) (by simpa using hv'))
    refine ⟨⟨by simpa using hl, fun i u x hu hx => ?_⟩, h2, hS⟩
    cases i with
    | zero => simp at hu hx; subst hu hx; exact .inr (.inr ⟨h1, ok_agg hp.1.2 h2 hok⟩)
    | succ i => exact hA i u x (by simpa using hu) (by simpa using hx)
  | [], _ :: _, _, _, _, h, _ => h.elim
  | [], [], _ :: _, _, _, h, _ => h.elim
  | _ :: _, [], _, _, _, h, _ => h.elim
  | _ :: _, _ :: _, [], _, _, h, _ => h.elim


theorem lift_law_n {N : Nat} {C : Checked} {os : Os} {f : FuncId} {fn : Func} {s : ChangeSpec} {conds : List PathCond} {tb : TypeId} (own : ownKnob C.prog.godebug = none) (started : os.Started) (noInit : C.prog.inits.idxOf? f = none) (hfn : C.prog.funcs[f]? = some fn)
    (witness : ∃ (w : World) (tape : Tape) (i : Input), w.os = os ∧ (w.forCall tape i).Shaped C.prog ∧ i.vars = [] ∧ Input.okWide C.prog (w.forCall tape i) .any w.heap.size f i ∧
      s.pre6 enc C.prog fn conds false (w.forCall tape i).memory i.args ∧ Assume.holds {} C.prog (lone (Frame.enter C.prog f i.args .normal) [] (w.forCall tape i)))
    (hvars : s.vars = []) (hs : ∀ ds : List (DataW H), ds.length = fn.params.toList.length → s.fn H ds = { results := [.lit (.bool true)], args := ds }) (hl : laidOutB C.prog = true)
    (hp : (fn.params.toList.all fun t => plainT C.prog N t && shOk C.prog N t) = true) (hr : (fn.params.toList.all fun t => C.prog.readableRec t && decide (t < C.prog.types.size)) = true)
    (hres : fn.resultTypes = #[tb]) (hb : C.prog.underlying tb = some .bool)
    (law : ∀ vs, ShAll C.prog N fn.params.toList vs → TCalls C.prog f vs ⟨[], []⟩ fun v _ => v = .bool true) :
    ReturnsInHanded {} C os f .any (s.pre6 enc C.prog fn conds false) (s.post enc C.prog fn false true false false) := by
  refine returnsInHanded_of_change_sized own started noInit hfn witness ?_
  intro W base args ds gs before hval hW _ _ _
  obtain ⟨p, q, hA, hV, rfl, hfz, hnd⟩ := id hW
  rw [hvars] at hV
  obtain ⟨rfl, rfl⟩ := trodVars_nil hV
  let g0 : G := ⟨W.heap.size, [], fun _ => none, []⟩
  have hrel := args_rel_n (g := g0) (enc := enc) (P := C.prog) (W := W) (base := base) (Nat.le_refl _) fn.params.toList args.toList ds p hp hA (fun j t v ht hv => hval j t v (by simpa using ht) (by simpa using hv))
  have hI : Inv g0 ⟨[], []⟩ W := by
    refine ⟨Nat.le_refl _, rfl, ?_, ?_, ?_, rfl, ?_, ?_⟩
    · intro i o h; simp at h
    · intro i j o o' b sh sh' h; simp at h
    · intro b L h; cases h
    · intro t e h; simp [g0] at h
    · intro t u e e' b o o' h; simp [g0] at h
  refine ((law _ hrel.2).2 g0 W args hI hrel.1).mono ?_
  rintro e W' ⟨x, g', v, σ', he, hE, hI', hv, rfl⟩
  have hx : x = .bool true := relV_bool hv
  subst hx
  subst he
  have bel : Below W.heap.size W W' := ⟨hE.os, hE.tape, hE.output, hE.size, fun k hk => hE.old k hk⟩
  have hlen := trodAll_len _ _ _ _ hA
  refine ⟨_, rfl, ds, [], p ++ [], [], p, [], hW, ?_, ?_, ?_, bel.frame _, fun h => by cases h⟩
  · rw [List.append_nil, hs ds hlen, hres]
    exact trodAll_mk1 (shut_bool hb _)
  · rw [List.append_nil, hs ds hlen]
    exact args_stay hl bel _ _ _ _ hr hA
  · rw [List.append_nil, hs ds hlen, hvars]
    rfl


end Go.Aff

namespace Go.Aff

variable {P : Program} {σ σ' : AST} {K : AV → AST → Prop} {KV : AV → Prop} {ops : Array Oper} {τ : Env} {KE : Env → AST → Prop}

def gop (ops : Array Oper) (j : Nat) : Option Oper := ops[j]?
theorem gop_zero {o : Oper} {l : List Oper} : gop ⟨o :: l⟩ 0 = some o := nr rfl
theorem gop_succ {o : Oper} {l : List Oper} {n : Nat} : gop ⟨o :: l⟩ (n + 1) = gop ⟨l⟩ n := by simp [gop]

def seqI (P : Program) (ops : Array Oper) : List Nat → Env → AST → (Env → AST → Prop) → Prop
  | [], τ, σ, K => K τ σ
  | i :: r, τ, σ, K => match gop ops i with
    | none => False
    | some o => stepW P ops o τ σ fun v σ' => σ' = σ ∧ seqI P ops r (τ.putO o.dst v) σ' K

def pastOk (P : Program) (ops : Array Oper) (past : List (Nat × Env × AV)) (σ : AST) : Prop :=
  ∀ x ∈ past, ∀ o, ops[x.1]? = some o → stepW P ops o x.2.1 σ fun v' σ'' => v' = x.2.2 ∧ σ'' = σ

theorem seqI_awpD : ∀ (l : List Nat) (past : List (Nat × Env × AV)) (τ : Env) (σ : AST), pastOk P ops past σ → (∀ t, lenOk (τ t)) → seqI P ops l τ σ KE → awpD P ops l past τ σ KE
  | [], past, τ, σ, hp, hlen, h => h
  | i :: r, past, τ, σ, hp, hlen, h => by
    simp only [seqI] at h
    split at h
    · exact h.elim
    · rename_i o hk
      have hk : ops[i]? = some o := hk
      simp only [awpD, hk]
      cases he : effO P o with
      | true =>
        simp only [if_true]
        refine stepW_mono (fun v σ' hh => ?_) h
        obtain ⟨rfl, hh⟩ := hh
        exact ⟨fun x hx _ o ho => hp x hx o ho, fun hlv => seqI_awpD r past _ _ hp hlv hh⟩
      | false =>
        simp only [Bool.false_eq_true, if_false]
        obtain ⟨v, hv, hkk⟩ := stepW_det hlen he h
        refine hkk _ fun hlv => seqI_awpD r _ _ _ ?_ hlv hv.2
        intro x hx o' ho'
        rcases List.mem_cons.1 hx with rfl | hx
        · dsimp only at ho' ⊢
          rw [hk] at ho'; cases ho'
          exact hkk _ ⟨rfl, rfl⟩
        · exact hp x hx o' ho'

theorem awp_drawS {id : Nat} {ops : Array Oper} {Q : Exit → Env → AST → Prop} (ord : List Nat) (ho : ordOk P ops ord = true) (h : seqI P ops ord τ σ (Q .normal)) : awp P (.region id ops true) Q τ σ :=
  awp_draw ord ho fun hlen => seqI_awpD ord [] τ σ (fun x hx => by simp at hx) hlen h

def seqO (P : Program) (ops : Array Oper) (o : Option Oper) (r : List Nat) (τ : Env) (σ : AST) (K : Env → AST → Prop) : Prop := match o with
  | none => False
  | some o => stepW P ops o τ σ fun v σ' => σ' = σ ∧ seqI P ops r (τ.putO o.dst v) σ' K
theorem seqI_nil : seqI P ops [] τ σ KE = KE τ σ := nr rfl
theorem seqI_cons {i : Nat} {r : List Nat} : seqI P ops (i :: r) τ σ KE = seqO P ops (gop ops i) r τ σ KE := by simp only [seqI, seqO]
theorem seqO_some {o : Oper} {r : List Nat} : seqO P ops (some o) r τ σ KE = stepW P ops o τ σ (@Lam ⟨fun v σ' => σ' = σ ∧ @Later ⟨seqI P ops r (τ.putO o.dst v) σ' KE⟩⟩) := nr rfl

/-! ### Slices -/

structure ElemT (P : Program) (t e c b : Nat) : Prop where
  hu : P.underlying t = some (.slice e)
  hc : P.cellsOf e = c
  hb : P.bytesOf e = b
  hz : ∃ z, ZeroOf P e z
  ha : 0 < c

theorem append_slice {t u e c b : Nat} (E : ElemT P t e c b) {tk tk2 : Tk} {xs ys : List AV} (hu : isSliceT P u = true) (hcan : canApp σ tk xs.length c) (hys : ∀ v ∈ ys, v.size = c) (hxs : ∀ v ∈ xs, v.size = c)
    (hl : (xs.length + ys.length) * b ≤ 140737488355328) (hm : xs.length + ys.length ≤ maxL) (hK : K (.slice (growT σ tk) (xs ++ ys)) (growS σ tk (xs.length + ys.length) c)) :
    appendW P ⟨[t, u]⟩ (.slice tk xs) (.slice tk2 ys) σ K := by
  refine .inl ⟨t, u, e, xs, tk, ys, rfl, rfl, E.hu, rfl, ?_, E.hz, ?_, ?_, hm, ?_⟩
  · simp [elemsOf, isSliceT_iff hu]
  · rw [E.hc]; exact hys
  · rw [E.hb]; exact hl
  · cases tk with
    | none => exact hcan.elim
    | lit => exact hcan.elim
    | full => exact ⟨by rw [E.hc]; exact hxs, by rw [E.hc]; exact hK⟩
    | own k => exact ⟨by rw [E.hc]; exact hcan, by rw [E.hc]; exact hK⟩

theorem size_u8s {l : List UInt8} : ∀ v ∈ u8s l, v.size = 1 := by
  intro v hv; simp only [u8s, List.mem_map] at hv; obtain ⟨b, _, rfl⟩ := hv; simp [AV.size]

theorem u8s_length {l : List UInt8} : (u8s l).length = l.length := by simp [u8s]
theorem u8s_append {a b : List UInt8} : u8s (a ++ b) = u8s a ++ u8s b := by simp [u8s]
theorem unU8_u8s : ∀ {l : List UInt8}, unU8 (u8s l) = some l
  | [] => rfl
  | b :: r => by
    have := unU8_u8s (l := r)
    simp only [u8s] at this ⊢
    simp [unU8, this]

theorem append_bytes {t u e b : Nat} (E : ElemT P t e 1 b) {tk tk2 : Tk} {xs ys : List UInt8} (hu : isSliceT P u = true) (hcan : canApp σ tk xs.length 1)
    (hl : (xs.length + ys.length) * b ≤ 140737488355328) (hm : xs.length + ys.length ≤ maxL) (hK : K (.slice (growT σ tk) (u8s (xs ++ ys))) (growS σ tk (xs.length + ys.length) 1)) :
    appendW P ⟨[t, u]⟩ (.slice tk (u8s xs)) (.slice tk2 (u8s ys)) σ K :=
  append_slice E hu (by rw [u8s_length]; exact hcan) size_u8s size_u8s (by rw [u8s_length, u8s_length]; exact hl) (by rw [u8s_length, u8s_length]; exact hm) (by rw [u8s_length, u8s_length, ← u8s_append]; exact hK)

theorem append_text {t u e b : Nat} (E : ElemT P t e 1 b) {tk : Tk} {xs s : List UInt8} (hu : P.underlying u = some .string) (hcan : canApp σ tk xs.length 1)
    (hl : (xs.length + s.length) * b ≤ 140737488355328) (hm : xs.length + s.length ≤ maxL) (hK : K (.slice (growT σ tk) (u8s (xs ++ s))) (growS σ tk (xs.length + s.length) 1)) :
    appendW P ⟨[t, u]⟩ (.slice tk (u8s xs)) (.str s) σ K := by
  refine .inl ⟨t, u, e, u8s xs, tk, u8s s, rfl, rfl, E.hu, rfl, ?_, E.hz, ?_, ?_, ?_, ?_⟩
  · simp [elemsOf, hu]
  · rw [E.hc]; exact size_u8s
  · rw [E.hb, u8s_length, u8s_length]; exact hl
  · rw [u8s_length, u8s_length]; exact hm
  · rw [u8s_length, u8s_length, ← u8s_append]
    cases tk with
    | none => exact hcan.elim
    | lit => exact hcan.elim
    | full => exact ⟨by rw [E.hc]; exact size_u8s, by rw [E.hc]; exact hK⟩
    | own k => exact ⟨by rw [E.hc]; exact hcan, by rw [E.hc]; exact hK⟩

theorem build_slice {t e c b n : Nat} (E : ElemT P t e c b) {ps : List (Nat × AV)} (h1 : ps.map (·.1) = List.range n) (h2 : n * c ≤ 16777216) (h3 : ∀ v ∈ ps.map (·.2), fits P e v ∧ v.known = true) (hK : KV (.slice .full (ps.map (·.2)))) :
    buildSliceW P t n ps KV := ⟨e, E.hu, h1, by rw [E.hc]; exact h2, h3, E.hz, by rw [E.hc]; exact E.ha, .inl hK⟩

theorem build_byte {t e b : Nat} (E : ElemT P t e 1 b) (ha : aggT P e = some false) {n : Int} (h0 : 0 ≤ n) (h1 : n < 256) (hK : KV (.slice .full (u8s [UInt8.ofNat n.toNat]))) : buildSliceW P t 1 [(0, .int .u8 n)] KV := by
  refine build_slice E rfl (by decide) ?_ ?_
  · intro v hv
    simp only [List.map_cons, List.map_nil, List.mem_singleton] at hv
    subst hv
    exact ⟨⟨by rw [ha]; rfl, by rw [E.hc]; simp [AV.size]⟩, rfl⟩
  · have : u8s [UInt8.ofNat n.toNat] = [.int .u8 n] := by
      simp only [u8s, List.map_cons, List.map_nil]
      have : ((UInt8.ofNat n.toNat).toNat : Int) = n := by
        simp [UInt8.toNat_ofNat']; omega
      rw [this]
    rw [this] at hK
    exact hK

theorem conv_bytes {s d e : Nat} (hs : P.underlying s = some (.slice e)) (he : P.underlying e = some (.int .u8)) (hd : P.underlying d = some .string) {tk : Tk} {l : List UInt8} : convW P s d (.slice tk (u8s l)) σ K = K (.str l) σ := by
  simp only [convW, hs, hd, unU8_u8s, Option.some.injEq, TypeDesc.slice.injEq]
  simp only [eq_iff_iff]
  constructor
  · rintro (⟨_, _, rfl, _, _, rfl, h⟩ | ⟨_, rfl, _⟩)
    · exact h
    · rw [hs] at hd; cases hd
  · intro h; exact .inl ⟨_, _, rfl, he, trivial, rfl, h⟩
theorem conv_bytes' {s d : Nat} (hs : isSliceT P s = true) (he : P.underlying (elemT P s) = some (.int .u8)) (hd : P.underlying d = some .string) {tk : Tk} {l : List UInt8} : convW P s d (.slice tk (u8s l)) σ K = K (.str l) σ :=
  conv_bytes (isSliceT_iff hs) he hd

theorem awp_rounds {α : Type} {c : Code} {Q : Exit → Env → AST → Prop} (S : α → Env → AST → Prop) (μ : α → Nat) (x0 : α) (h0 : S x0 τ σ)
    (h : ∀ x τ σ, S x τ σ → awp P c (thenQ (@LamE ⟨fun τ' σ' => @Later ⟨∃ x', μ x' < μ x ∧ S x' τ' σ'⟩⟩) Q) τ σ) : awp P (.loop c) Q τ σ :=
  awp_loop_of S μ x0 h0 fun x τ σ hx => by
    have := h x τ σ hx
    have e : (@LamE ⟨fun τ' σ' => @Later ⟨∃ x', μ x' < μ x ∧ S x' τ' σ'⟩⟩) = (@LamE ⟨fun τ' σ' => ∃ m, m < μ x ∧ ∃ x', S x' τ' σ' ∧ μ x' = m⟩) := by
      funext τ' σ'
      simp only [LamE, Later, eq_iff_iff]
      constructor
      · rintro ⟨x', h1, h2⟩; exact ⟨_, h1, x', h2, rfl⟩
      · rintro ⟨_, h1, x', h2, rfl⟩; exact ⟨x', h1, h2⟩
    rwa [e] at this

theorem nth_get {α : Type} {l : List α} {i : Nat} {y : α} {F : α → Prop} (h : l[i]? = some y) (hF : F y) : nthW l (i : Int) (@LamA _ ⟨F⟩) := by
  refine ⟨by omega, ?_, fun z hz => ?_⟩
  · have := (List.getElem?_eq_some_iff.1 h).1; omega
  · have : ((i : Int)).toNat = i := by omega
    rw [this, h] at hz
    cases hz; exact hF
theorem get_lt {α : Type} {l : List α} {i : Nat} (h : i < l.length) : ∃ y, l[i]? = some y := ⟨_, List.getElem?_eq_getElem h⟩

theorem tdiv_nat (n m : Nat) : Int.tdiv (n : Int) (m : Int) = ((n / m : Nat) : Int) := (Int.ofNat_tdiv n m).symm
theorem tmod_nat (n m : Nat) : Int.tmod (n : Int) (m : Int) = ((n % m : Nat) : Int) := (Int.ofNat_tmod n m).symm
theorem tdiv_lit (n m : Nat) : Int.tdiv (n : Int) (OfNat.ofNat (m + 1)) = ((n / (m + 1) : Nat) : Int) := tdiv_nat n (m + 1)
theorem wrap_i64 {n : Int} (h0 : -9223372036854775808 ≤ n) (h1 : n ≤ 9223372036854775807) : IntKind.i64.wrap n = n := by
  rw [IntKind.wrap_i64]; omega
theorem wrap_u64 {n : Int} (h0 : 0 ≤ n) (h1 : n < 18446744073709551616) : IntKind.u64.wrap n = n := by
  rw [IntKind.wrap_u64]; omega
theorem wrap_u8 {n : Int} (h0 : 0 ≤ n) (h1 : n < 256) : IntKind.u8.wrap n = n := by
  rw [IntKind.wrap_u8]; omega

def extractO (v : Option AV) (K : AV → Prop) : Prop := match v with
  | some v => K v
  | none => False
theorem known_int {k : IntKind} {n : Int} : (AV.int k n).known = true := rfl
theorem known_str {s : List UInt8} : (AV.str s).known = true := rfl
theorem known_bool {b : Bool} : (AV.bool b).known = true := rfl
theorem known_slice {tk : Tk} {xs : List AV} : (AV.slice tk xs).known = true := rfl
theorem known_ptr {p : Option (Nat × List Nat)} : (AV.ptr p).known = true := rfl
theorem known_eptr {v : AV} : (AV.eptr v).known = true := rfl
theorem known_agg {ps : List AV} : (AV.agg ps).known = true := rfl
theorem known_dig {d : Dig} : (AV.dig d).known = true := rfl
theorem known_fn {f : Fn} {a b : List AV} : (AV.fn f a b).known = true := rfl
theorem known_mp {r : Option Nat} : (AV.mp r).known = true := rfl
theorem res_two {a b : Nat} : resW P [.tmp a, .tmp b] τ σ KV = (((τ a).known = true ∧ (τ b).known = true) ∧ @Later ⟨KV (.tuple [τ a, τ b])⟩) := by
  simp [resW, resList, oneRes, Later]
theorem res_three {a b c : Nat} : resW P [.tmp a, .tmp b, .tmp c] τ σ KV = (((τ a).known = true ∧ (τ b).known = true ∧ (τ c).known = true) ∧ @Later ⟨KV (.tuple [τ a, τ b, τ c])⟩) := by
  simp [resW, resList, oneRes, Later]
theorem res_four {a b c d : Nat} : resW P [.tmp a, .tmp b, .tmp c, .tmp d] τ σ KV = (((τ a).known = true ∧ (τ b).known = true ∧ (τ c).known = true ∧ (τ d).known = true) ∧ @Later ⟨KV (.tuple [τ a, τ b, τ c, τ d])⟩) := by
  simp [resW, resList, oneRes, Later]
theorem res_none : resW P [] τ σ KV = KV (.tuple []) := by simp [resW, resList]
theorem extract_at {vs : List AV} {i : Nat} : extractW (.tuple vs) i KV = extractO vs[i]? KV := nr rfl
theorem extractO_some {v : AV} : extractO (some v) KV = KV v := nr rfl
theorem absV_empty : absV (.string ⟨#[]⟩) = .str [] := nr rfl

attribute [go_sem ↓] res_two res_three res_four res_none
attribute [go_sem] known_int known_str known_bool known_slice known_ptr known_eptr known_agg known_dig known_fn known_mp extract_at extractO_some absV_empty List.getElem?_cons_zero List.getElem?_cons_succ List.length_nil List.length_cons Nat.reduceLeDiff
attribute [go_sem] beq_self_eq_true bne_self_eq_false ne_eq not_false_eq_true Int.reduceEq Int.reduceLT Int.reduceNeg Int.reduceBEq Int.reduceBNe Nat.reduceBEq decide_true decide_false Bool.true_and Bool.false_and Bool.and_true Bool.and_false Bool.or_false Bool.or_true Bool.false_or Bool.true_or List.cons_append List.nil_append
attribute [go_sem ↓] gop_zero gop_succ seqI_nil seqI_cons seqO_some
attribute [go_sem] conv_bytes'
end Go.Aff

namespace Go.Aff.L01
open Go.Aff

def dg (n : Nat) : List UInt8 := if n < 10 then [UInt8.ofNat (48 + n)] else dg (n / 10) ++ [UInt8.ofNat (48 + n % 10)]

theorem dg_small {n : Nat} (h : n < 10) : dg n = [UInt8.ofNat (48 + n)] := by rw [dg, if_pos h]
theorem dg_big {n : Nat} (h : ¬ n < 10) : dg n = dg (n / 10) ++ [UInt8.ofNat (48 + n % 10)] := by rw [dg, if_neg h]
theorem dg_len : ∀ (k n : Nat), n < 10 ^ (k + 1) → (dg n).length ≤ k + 1
  | 0, n, h => by rw [dg_small (by simpa using h)]; simp
  | k + 1, n, h => by
    by_cases h10 : n < 10
    · rw [dg_small h10]; simp
    · rw [dg_big h10, List.length_append]
      have := dg_len k (n / 10) (by rw [Nat.div_lt_iff_lt_mul (by decide)]; rw [Nat.pow_succ] at h; exact h)
      simp; omega
theorem dg_len20 {n : Nat} (h : n < 18446744073709551616) : (dg n).length ≤ 20 := dg_len 19 n (Nat.lt_of_lt_of_le h (by decide))

def numS (n : Int) : List UInt8 := (if n < 0 then [45] else []) ++ dg n.natAbs ++ [59]
theorem numS_len {n : Int} (h0 : -9223372036854775808 ≤ n) (h1 : n ≤ 9223372036854775807) : (numS n).length ≤ 22 := by
  have := dg_len20 (n := n.natAbs) (by omega)
  unfold numS; split <;> simp <;> omega

end Go.Aff.L01

namespace Go.Aff.L01
open Go.Proofs Go.Aff
set_option maxRecDepth 20000
theorem mixed : Try.prog.follows .mixedOrders = true := rfl
theorem agg3 : aggT Try.prog 3 = some false := by kernel_rfl
theorem cells3 : Try.prog.cellsOf 3 = 1 := by kernel_rfl
theorem agg5 : aggT Try.prog 5 = some false := by kernel_rfl
theorem zero5 : ZeroOf Try.prog 5 (.int .u8 0) := ⟨_, _, rfl, rfl, rfl, rfl, rfl⟩
theorem E51 : ElemT Try.prog 123 5 1 1 := ⟨rfl, by kernel_rfl, by kernel_rfl, ⟨_, zero5⟩, by decide⟩
theorem S51 : isSliceT Try.prog 123 = true := rfl
attribute [local go_sem] Try.underlying5 Try.underlying182

theorem digits_c : ∀ (n : Nat), n < 18446744073709551616 → ∀ {tk : Tk} {l : List UInt8} {σ : AST} {K : AV → AST → Prop}, canApp σ tk l.length 1 → l.length ≤ 20000000 →
    K (.slice (growT σ tk) (u8s (l ++ dg n))) (growS σ tk (l ++ dg n).length 1) → TCalls Try.prog 107 [.slice tk (u8s l), .int .u64 n] σ K := by
  intro n
  induction n using Nat.strongRecOn with
  | ind n ih =>
  intro hn tk l σ K hcan hl hK
  refine tcalls_walk Try.f107 _ [.tmp 4] Try.func107 rfl rfl rfl mixed (Nat.le_of_ble_eq_true rfl) rfl fun hlen => ?_
  refine awp_seq_k fun KA hKA => ?_
  simp -dsimp only [↓reduceIte, go_sem]
  refine hKA _ _ (awp_seq_k fun KB hKB => ?_)
  have last : ∀ {tk : Tk} {l : List UInt8} {σ : AST} {τ : Env}, canApp σ tk l.length 1 → l.length ≤ 20000100 → τ 0 = .slice tk (u8s l) → τ 1 = .int .u64 n →
      K (.slice (growT σ tk) (u8s (l ++ [UInt8.ofNat (48 + n % 10)]))) (growS σ tk (l.length + 1) 1) → KB τ σ := by
    intro tk l σ τ hcan hl h0 h1 hK
    refine hKB _ _ ?_
    simp -dsimp only [↓reduceIte, go_sem, h0, h1]
    rw [show Int.tmod (n : Int) 10 = ((n % 10 : Nat) : Int) from tmod_nat n 10, wrap_u64 (by omega) (by omega), wrap_u8 (by omega) (by omega)]
    refine build_byte E51 agg5 (by omega) (by omega) ?_
    rw [show UInt8.ofNat ((48 : Int) + ((n % 10 : Nat) : Int)).toNat = UInt8.ofNat (48 + n % 10) by congr 1]
    simp -dsimp only [↓reduceIte, go_sem]
    refine append_bytes E51 S51 hcan (by simp; omega) (by simp [maxL]; omega) ?_
    simp -dsimp only [↓reduceIte, go_sem]
    exact hK
  simp -dsimp only [↓reduceIte, go_sem]
  refine boolW_split (fun hb => ?_) (fun hb => ?_)
  · have h10 : ¬ n < 10 := by simp at hb; omega
    simp -dsimp only [↓reduceIte, go_sem]
    rw [show Int.tdiv (n : Int) 10 = ((n / 10 : Nat) : Int) from tdiv_nat n 10, wrap_u64 (by omega) (by omega)]
    refine ih (n / 10) (by omega) (by omega) hcan hl ?_
    simp -dsimp only [↓reduceIte, go_sem]
    have hd := dg_len20 (n := n / 10) (by omega)
    refine last (tk := growT σ tk) (l := l ++ dg (n / 10)) (by exact canApp_grow hcan) (by simp; omega) ?_ ?_ ?_
    · simp -dsimp only [↓reduceIte, go_sem]
    · simp -dsimp only [↓reduceIte, go_sem]
    · rw [growT_growS, growS_growS hcan]
      rw [dg_big h10] at hK
      rw [show (l ++ dg (n / 10)).length + 1 = (l ++ (dg (n / 10) ++ [UInt8.ofNat (48 + n % 10)])).length by simp; omega, List.append_assoc]
      exact hK
  · have h10 : n < 10 := by simp at hb; omega
    simp -dsimp only [↓reduceIte, go_sem]
    refine last hcan (by omega) ?_ ?_ ?_
    · simp -dsimp only [↓reduceIte, go_sem]
    · simp -dsimp only [↓reduceIte, go_sem]
    · rw [dg_small h10] at hK
      rw [Nat.mod_eq_of_lt h10]
      rw [show l.length + 1 = (l ++ [UInt8.ofNat (48 + n)]).length by simp]
      exact hK
end Go.Aff.L01

namespace Go.Aff.L01
open Go.Proofs Go.Aff
set_option maxRecDepth 20000
attribute [local go_sem] Try.underlying3 Try.underlying5 Try.underlying9 Try.underlying123 Try.underlying182

theorem number_c {n : Int} (h0 : -9223372036854775808 ≤ n) (h1 : n ≤ 9223372036854775807) {σ : AST} {K : AV → AST → Prop} (hK : K (.str (numS n)) σ) : TCalls Try.prog 77 [.int .i64 n] σ K := by
  refine TCalls.drop ?_
  refine tcalls_walk Try.f77 _ [.tmp 2] Try.func77 rfl rfl rfl mixed (Nat.le_of_ble_eq_true rfl) rfl fun hlen => ?_
  have hd := dg_len20 (n := n.natAbs) (by omega)
  simp -dsimp only [↓reduceIte, go_sem]
  refine boolW_split (fun hb => ?_) (fun hb => ?_)
  · have hneg : n < 0 := by simpa using hb
    simp -dsimp only [↓reduceIte, go_sem]
    refine build_byte E51 agg5 (by decide) (by decide) ?_
    simp -dsimp only [↓reduceIte, go_sem]
    rw [show IntKind.u64.wrap (0 - IntKind.u64.wrap n) = ((n.natAbs : Nat) : Int) by rw [IntKind.wrap_u64, IntKind.wrap_u64]; omega]
    refine digits_c _ (by omega) canFull (by simp) ?_
    simp -dsimp only [↓reduceIte, go_sem]
    refine build_byte E51 agg5 (by decide) (by decide) ?_
    simp -dsimp only [↓reduceIte, go_sem]
    refine append_bytes E51 S51 canGrow (by simp; omega) (by simp [maxL]; omega) ?_
    simp -dsimp only [↓reduceIte, go_sem]
    refine ⟨?_, rfl, ?_⟩
    · rw [growFull]; exact Ext.growFull _ _ _
    · have : numS n = [UInt8.ofNat (Int.toNat 45)] ++ dg n.natAbs ++ [UInt8.ofNat (Int.toNat 59)] := by simp [numS, hneg]
      rw [this] at hK; exact hK
  · have hneg : ¬ n < 0 := by simpa using hb
    simp -dsimp only [↓reduceIte, go_sem]
    rw [show IntKind.u64.wrap n = ((n.natAbs : Nat) : Int) by rw [IntKind.wrap_u64]; omega]
    refine digits_c (l := []) _ (by omega) canFull (by simp) ?_
    simp -dsimp only [↓reduceIte, go_sem]
    refine build_byte E51 agg5 (by decide) (by decide) ?_
    simp -dsimp only [↓reduceIte, go_sem]
    refine append_bytes E51 S51 canGrow (by simp; omega) (by simp [maxL]; omega) ?_
    simp -dsimp only [↓reduceIte, go_sem]
    refine ⟨?_, rfl, ?_⟩
    · rw [growFull]; exact Ext.growFull _ _ _
    · have : numS n = dg n.natAbs ++ [UInt8.ofNat (Int.toNat 59)] := by simp [numS, hneg]
      rw [this] at hK; exact hK

def textS (s : List UInt8) : List UInt8 := dg s.length ++ [58] ++ s

theorem text_c {s : List UInt8} {σ : AST} {K : AV → AST → Prop} (hK : K (if 16384 < s.length then .tuple [.str [], .int .i64 4] else .tuple [.str (textS s), .int .i64 0]) σ) : TCalls Try.prog 116 [.str s] σ K := by
  refine TCalls.drop ?_
  refine tcalls_walk Try.f116 _ [.tmp 2, .tmp 3] Try.func116 rfl rfl rfl mixed (Nat.le_of_ble_eq_true rfl) rfl fun hlen => ?_
  simp -dsimp only [↓reduceIte, go_sem]
  refine arr_intro fun _ => ?_
  simp -dsimp only [↓reduceIte, go_sem]
  refine boolW_split (fun hb => ?_) (fun hb => ?_)
  · have hb : 16384 < s.length := by simp at hb; omega
    rw [if_pos hb] at hK
    simp -dsimp only [↓reduceIte, go_sem]
    exact ⟨Ext.refl _, rfl, hK⟩
  · have hb : ¬ 16384 < s.length := by simp at hb; omega
    rw [if_neg hb] at hK
    have hd := dg_len20 (n := s.length) (by omega)
    simp -dsimp only [↓reduceIte, go_sem]
    refine arr_intro fun _ => ?_
    simp -dsimp only [↓reduceIte, go_sem]
    rw [wrap_u64 (by omega) (by omega)]
    refine digits_c (l := []) _ (by omega) canFull (by simp) ?_
    simp -dsimp only [↓reduceIte, go_sem]
    refine build_byte E51 agg5 (by decide) (by decide) ?_
    simp -dsimp only [↓reduceIte, go_sem]
    refine append_bytes E51 S51 canGrow (by simp; omega) (by simp [maxL]; omega) ?_
    simp -dsimp only [↓reduceIte, go_sem]
    refine side_later (by simp [maxL]; omega) ?_
    simp -dsimp only [↓reduceIte, go_sem]
    refine ⟨?_, rfl, ?_⟩
    · rw [growFull]; exact Ext.growFull _ _ _
    · exact hK

end Go.Aff.L01

namespace Go.Aff.L01
open Go.Proofs Go.Aff
set_option maxRecDepth 20000
theorem agg9 : aggT Try.prog 9 = some false := by kernel_rfl
theorem cells9 : Try.prog.cellsOf 9 = 1 := by kernel_rfl
theorem fits3 {v : AV} : fits Try.prog 3 v = (v.isAgg = false ∧ v.size = 1) := fits_leaf agg3 cells3
theorem fits9 {v : AV} : fits Try.prog 9 v = (v.isAgg = false ∧ v.size = 1) := fits_leaf agg9 cells9
attribute [local go_sem] Try.underlying5 Try.underlying9 Try.underlying123 Try.underlying50 fits3

theorem numbers1_c {n : Int} (h0 : -9223372036854775808 ≤ n) (h1 : n ≤ 9223372036854775807) {σ : AST} {K : AV → AST → Prop} (hK : K (.tuple [.str (numS n), .int .i64 0]) σ) : TCalls Try.prog 114 [.int .i64 n] σ K := by
  refine tcalls_walk Try.f114 _ [.tmp 2, .tmp 3] Try.func114 rfl rfl rfl mixed (Nat.le_of_ble_eq_true rfl) rfl fun hlen => ?_
  simp -dsimp only [↓reduceIte, go_sem]
  refine number_c h0 h1 ?_
  simp -dsimp only [↓reduceIte, go_sem]
  exact hK

theorem flat_len {α : Type} {f : α → List UInt8} {m : Nat} : ∀ {l : List α}, (∀ x ∈ l, (f x).length ≤ m) → (l.flatMap f).length ≤ l.length * m
  | [], h => by simp
  | x :: r, h => by
    have := flat_len (f := f) (m := m) (l := r) (fun y hy => h y (by simp [hy]))
    have h1 := h x (by simp)
    simp only [List.flatMap_cons, List.length_append, List.length_cons, Nat.add_mul]
    omega
theorem flat_take {α : Type} {f : α → List UInt8} {l : List α} {i : Nat} {x : α} (h : l[i]? = some x) : (l.take (i + 1)).flatMap f = (l.take i).flatMap f ++ f x := by
  rw [List.take_add_one, h]; simp

def part {α : Type} (f : α → List UInt8) (l : List α) (i : Nat) : List UInt8 := 40 :: (l.take i).flatMap f
theorem part_zero {α : Type} {f : α → List UInt8} {l : List α} : part f l 0 = [40] := by simp [part]
theorem part_succ {α : Type} {f : α → List UInt8} {l : List α} {i : Nat} {x : α} (h : l[i]? = some x) : part f l (i + 1) = part f l i ++ f x := by simp [part, flat_take h]
theorem part_all {α : Type} {f : α → List UInt8} {l : List α} : part f l l.length = 40 :: l.flatMap f := by simp [part]
theorem part_len {α : Type} {f : α → List UInt8} {l : List α} {m i : Nat} (h : ∀ x ∈ l, (f x).length ≤ m) (hi : i ≤ l.length) : (part f l i).length ≤ 1 + l.length * m := by
  have := flat_len (f := f) (m := m) (l := l.take i) (fun x hx => h x (List.mem_of_mem_take hx))
  have h2 : (l.take i).length * m ≤ l.length * m := Nat.mul_le_mul_right m (by simp; omega)
  simp only [part, List.length_cons]; omega
def laidAll {α : Type} (f : α → List UInt8) (l : List α) : List UInt8 := part f l l.length ++ [41]

theorem listInt_c {l : List Int} (hl : ∀ n ∈ l, -9223372036854775808 ≤ n ∧ n ≤ 9223372036854775807) {tk0 : Tk} {σ : AST} {K : AV → AST → Prop}
    (hK : K (if 512 < l.length then .tuple [.str [], .int .i64 4] else .tuple [.str (laidAll numS l), .int .i64 0]) σ) : TCalls Try.prog 113 [.slice tk0 (l.map (AV.int .i64)), .fn (.func 114) [] []] σ K := by
  refine TCalls.drop ?_
  refine tcalls_walk Try.f113 _ [.tmp 4, .tmp 5] Try.func113 rfl rfl rfl mixed (Nat.le_of_ble_eq_true rfl) rfl fun hlen => ?_
  have hs : l.length ≤ 9223372036854775807 := by
    have := hlen (.slice tk0 (l.map (AV.int .i64))) (by simp)
    simp only [lenOk, List.length_map, maxL] at this; exact this
  refine awp_seq_k fun KA hKA => ?_
  simp -dsimp only [↓reduceIte, go_sem]
  refine hKA _ _ ?_
  simp -dsimp only [↓reduceIte, go_sem]
  refine arr_intro fun _ => ?_
  simp only [List.length_map]
  simp -dsimp only [↓reduceIte, go_sem]
  refine boolW_split (fun hb => ?_) (fun hb => ?_)
  · have hb : 512 < l.length := by simp at hb; omega
    rw [if_pos hb] at hK
    simp -dsimp only [↓reduceIte, go_sem]
    exact ⟨Ext.refl _, rfl, hK⟩
  · have hb : ¬ 512 < l.length := by simp at hb; omega
    rw [if_neg hb] at hK
    simp -dsimp only [↓reduceIte, go_sem]
    refine build_byte E51 agg5 (by decide) (by decide) ?_
    simp -dsimp only [↓reduceIte, go_sem]
    refine arr_intro fun _ => ?_
    simp only [List.length_map]
    simp -dsimp only [↓reduceIte, go_sem]
    refine awp_rounds (fun (i : Nat) τ s => i ≤ l.length ∧ Ext σ s ∧ τ 1 = .fn (.func 114) [] [] ∧ τ 15 = .slice tk0 (l.map (AV.int .i64)) ∧ τ 16 = .int .i64 l.length ∧ τ 17 = .int .i64 i ∧
      ∃ tk, tkNew σ tk ∧ canApp s tk (part numS l i).length 1 ∧ τ 6 = .slice tk (u8s (part numS l i))) (fun i => l.length - i) 0 ?_ ?_
    · refine ⟨by omega, Ext.refl _, ?_, ?_, ?_, ?_, .full, .inl rfl, trivial, ?_⟩ <;> simp only [go_sem] <;> first | rfl | (rw [part_zero]; rfl)
    · rintro i τ s ⟨hi, hx, t1, t15, t16, t17, tk, htk, hcan, t6⟩
      have hcat := part_len (f := numS) (l := l) (m := 22) (i := i) (fun x hx => numS_len (hl x hx).1 (hl x hx).2) hi
      simp -dsimp only [↓reduceIte, go_sem, t1, t6, t15, t16, t17]
      refine boolW_split (fun h1 => ?_) (fun h1 => ?_)
      · have h1 : i < l.length := by simp at h1; omega
        obtain ⟨n, hn⟩ := get_lt h1
        have hr := hl n (List.mem_iff_getElem?.2 ⟨i, hn⟩)
        simp -dsimp only [↓reduceIte, go_sem, t1, t6, t15, t16, t17]
        refine nth_get hn ?_
        simp -dsimp only [↓reduceIte, go_sem, t1, t6, t15, t16, t17]
        refine numbers1_c hr.1 hr.2 ?_
        simp -dsimp only [↓reduceIte, go_sem, t1, t6, t15, t16, t17]
        have hnl := numS_len hr.1 hr.2
        refine append_text E51 Try.underlying9 hcan (by omega) (by simp only [maxL]; omega) ?_
        simp -dsimp only [↓reduceIte, go_sem, t1, t6, t15, t16, t17]
        rw [wrap_i64 (by omega) (by omega)]
        refine later_intro ⟨i + 1, by omega, ?_⟩
        rw [part_succ hn, List.length_append]
        refine ⟨by omega, hx.grow htk, ?_, ?_, ?_, ?_, growT s tk, htk.grow hx, canApp_grow hcan, ?_⟩ <;> simp only [go_sem, t1, t15, t16, t17] <;> rfl
      · have h1 : i = l.length := by simp at h1; omega
        subst h1
        simp -dsimp only [↓reduceIte, go_sem, t1, t6, t15, t16, t17]
        refine build_byte E51 agg5 (by decide) (by decide) ?_
        simp -dsimp only [↓reduceIte, go_sem, t1, t6, t15, t16, t17]
        refine append_bytes E51 S51 hcan (by simp; omega) (by simp [maxL]; omega) ?_
        simp -dsimp only [↓reduceIte, go_sem, t1, t6, t15, t16, t17]
        exact ⟨hx.grow htk, rfl, hK⟩

theorem numbers_c {l : List Int} (hl : ∀ n ∈ l, -9223372036854775808 ≤ n ∧ n ≤ 9223372036854775807) {tk0 : Tk} {σ : AST} {K : AV → AST → Prop}
    (hK : K (if 512 < l.length then .tuple [.str [], .int .i64 4] else .tuple [.str (laidAll numS l), .int .i64 0]) σ) : TCalls Try.prog 101 [.slice tk0 (l.map (AV.int .i64))] σ K := by
  refine tcalls_walk Try.f101 _ [.tmp 2, .tmp 3] Try.func101 rfl rfl rfl mixed (Nat.le_of_ble_eq_true rfl) rfl fun hlen => ?_
  simp -dsimp only [↓reduceIte, go_sem]
  refine listInt_c hl ?_
  split
  · rename_i h
    rw [if_pos h] at hK
    simp -dsimp only [↓reduceIte, go_sem]
    exact hK
  · rename_i h
    rw [if_neg h] at hK
    simp -dsimp only [↓reduceIte, go_sem]
    exact hK
end Go.Aff.L01

namespace Go.Aff.L01
open Go.Proofs Go.Aff
set_option maxRecDepth 20000
theorem textS_len {s : List UInt8} (h : ¬ 16384 < s.length) : (textS s).length ≤ 16405 := by
  have := dg_len20 (n := s.length) (by omega)
  simp [textS]; omega

def textsR (l : List (List UInt8)) : AV :=
  if 512 < l.length ∨ ∃ s ∈ l, 16384 < s.length then .tuple [.str [], .int .i64 4] else .tuple [.str (laidAll textS l), .int .i64 0]

theorem part_len' {α : Type} {f : α → List UInt8} {l : List α} {m i : Nat} (h : ∀ x ∈ l.take i, (f x).length ≤ m) (hi : i ≤ l.length) : (part f l i).length ≤ 1 + l.length * m := by
  have := flat_len (f := f) (m := m) (l := l.take i) h
  have h2 : (l.take i).length * m ≤ l.length * m := Nat.mul_le_mul_right m (by simp; omega)
  simp only [part, List.length_cons]; omega

end Go.Aff.L01

namespace Go.Aff.L01
open Go.Aff

def isD (b : UInt8) : Bool := decide (48 ≤ b.toNat) && decide (b.toNat ≤ 57)
def val (l : List UInt8) : Nat := l.foldl (fun a b => a * 10 + (b.toNat - 48)) 0
end Go.Aff.L01

namespace Go.Aff.L01
open Go.Proofs Go.Aff
set_option maxRecDepth 20000
end Go.Aff.L01

namespace Go.Aff.L01
open Go.Aff



end Go.Aff.L01

namespace Go.Aff.L01
open Go.Proofs Go.Aff
set_option maxRecDepth 20000
end Go.Aff.L01

namespace Go.Aff.L21
open Go.Aff Go.Aff.L01 Classical

/-! ### Blocks -/
def cutL : Nat → List UInt8 → List (List UInt8)
  | 0, _ => []
  | n + 1, d => if d = [] then [] else d.take 32 :: cutL n (d.drop 32)
def cut (d : List UInt8) : List (List UInt8) := cutL d.length d
/-! ### Names, leaves, tables -/
def letterB (b : UInt8) : Bool := decide ((97 ≤ b.toNat ∧ b.toNat ≤ 122) ∨ (48 ≤ b.toNat ∧ b.toNat ≤ 57) ∨ b.toNat = 46 ∨ b.toNat = 45 ∨ b.toNat = 95)
def nameB (s : List UInt8) : Bool := decide (s ≠ [] ∧ s.length ≤ 12 ∧ s ≠ [46] ∧ s ≠ [46, 46] ∧ ∀ b ∈ s, letterB b = true)
def leqS (a b : List UInt8) : Bool := Op.bytesLess a b || a == b
def NamesOk (l : List (List UInt8)) : Prop := ∀ (i : Nat) s, l[i]? = some s → nameB s = true ∧ ∀ t, 0 < i → l[i - 1]? = some t → leqS s t = false
def AllIn (lo hi : Int) (l : List Int) : Prop := ∀ n ∈ l, lo ≤ n ∧ n ≤ hi
structure Leaf where
  num : Int
  kind : Int
  size : Int
  blocks : List Int
  names : List (List UInt8)
  nodes : List Int
def Leaf.File (x : Leaf) : Prop := AllIn 0 1099511627776 x.blocks ∧ 0 ≤ x.size ∧ x.size ≤ 512 ∧ (x.blocks.length : Int) = (x.size + 31) / 32 ∧ x.names = [] ∧ x.nodes = []
def Leaf.Dir (x : Leaf) : Prop := NamesOk x.names ∧ AllIn 1 32 x.nodes ∧ x.size = 0 ∧ x.blocks = [] ∧ x.names.length = x.nodes.length
def Leaf.Right (x : Leaf) : Prop := 1 ≤ x.num ∧ x.num ≤ 32 ∧ ((x.kind = 2 ∧ x.File) ∨ (x.kind = 1 ∧ x.Dir))
def Table (l : List Leaf) : Prop := ∀ (i : Nat) x, l[i]? = some x → x.Right ∧ ∀ y, 0 < i → l[i - 1]? = some y → y.num < x.num
end Go.Aff.L21

namespace Go.Aff.L01
open Go.Proofs Go.Aff
attribute [local go_sem] Try.underlying5 Try.underlying9 Try.underlying123 Try.underlying43 fits9

theorem listText_c {l : List (List UInt8)} {tk0 : Tk} {σ : AST} {K : AV → AST → Prop} (hK : K (textsR l) σ) : TCalls Try.prog 115 [.slice tk0 (l.map AV.str), .fn (.func 116) [] []] σ K := by
  refine TCalls.drop ?_
  refine tcalls_walk Try.f115 _ [.tmp 4, .tmp 5] Try.func115 rfl rfl rfl mixed (Nat.le_of_ble_eq_true rfl) rfl fun hlen => ?_
  have hs : l.length ≤ 9223372036854775807 := by
    have := hlen (.slice tk0 (l.map AV.str)) (by simp)
    simp only [lenOk, List.length_map, maxL] at this; exact this
  have bad : (512 < l.length ∨ ∃ s ∈ l, 16384 < s.length) → K (.tuple [.str [], .int .i64 4]) σ := fun h => by
    rw [textsR, if_pos h] at hK; exact hK
  refine awp_seq_k fun KA hKA => ?_
  simp -dsimp only [↓reduceIte, go_sem]
  refine hKA _ _ ?_
  simp -dsimp only [↓reduceIte, go_sem]
  refine arr_intro fun _ => ?_
  simp only [List.length_map]
  simp -dsimp only [↓reduceIte, go_sem]
  refine boolW_split (fun hb => ?_) (fun hb => ?_)
  · have hb : 512 < l.length := by simp at hb; omega
    simp -dsimp only [↓reduceIte, go_sem]
    exact ⟨Ext.refl _, rfl, bad (.inl hb)⟩
  · have hb : ¬ 512 < l.length := by simp at hb; omega
    simp -dsimp only [↓reduceIte, go_sem]
    refine build_byte E51 agg5 (by decide) (by decide) ?_
    simp -dsimp only [↓reduceIte, go_sem]
    refine arr_intro fun _ => ?_
    simp only [List.length_map]
    simp -dsimp only [↓reduceIte, go_sem]
    refine awp_rounds (fun (i : Nat) τ s => i ≤ l.length ∧ Ext σ s ∧ τ 1 = .fn (.func 116) [] [] ∧ τ 15 = .slice tk0 (l.map AV.str) ∧ τ 16 = .int .i64 l.length ∧ τ 17 = .int .i64 i ∧ (∀ x ∈ l.take i, ¬ 16384 < x.length) ∧
      ∃ tk, tkNew σ tk ∧ canApp s tk (part textS l i).length 1 ∧ τ 6 = .slice tk (u8s (part textS l i))) (fun i => l.length - i) 0 ?_ ?_
    · refine ⟨by omega, Ext.refl _, ?_, ?_, ?_, ?_, by simp, .full, .inl rfl, trivial, ?_⟩ <;> simp only [go_sem] <;> first | rfl | (rw [part_zero]; rfl)
    · rintro i τ s ⟨hi, hx, t1, t15, t16, t17, hsm, tk, htk, hcan, t6⟩
      have hcat := part_len' (f := textS) (l := l) (m := 16405) (i := i) (fun x hx => textS_len (hsm x hx)) hi
      simp -dsimp only [↓reduceIte, go_sem, t1, t6, t15, t16, t17]
      refine boolW_split (fun h1 => ?_) (fun h1 => ?_)
      · have h1 : i < l.length := by simp at h1; omega
        obtain ⟨x, hn⟩ := get_lt h1
        simp -dsimp only [↓reduceIte, go_sem, t1, t6, t15, t16, t17]
        refine nth_get hn ?_
        simp -dsimp only [↓reduceIte, go_sem, t1, t6, t15, t16, t17]
        refine text_c ?_
        split
        · rename_i hbig
          simp -dsimp only [↓reduceIte, go_sem, t1, t6, t15, t16, t17]
          exact ⟨hx, rfl, bad (.inr ⟨x, List.mem_iff_getElem?.2 ⟨i, hn⟩, hbig⟩)⟩
        · rename_i hbig
          simp -dsimp only [↓reduceIte, go_sem, t1, t6, t15, t16, t17]
          have hnl := textS_len hbig
          refine append_text E51 Try.underlying9 hcan (by omega) (by simp only [maxL]; omega) ?_
          simp -dsimp only [↓reduceIte, go_sem, t1, t6, t15, t16, t17]
          rw [wrap_i64 (by omega) (by omega)]
          refine later_intro ⟨i + 1, by omega, ?_⟩
          rw [part_succ hn, List.length_append]
          refine ⟨by omega, hx.grow htk, ?_, ?_, ?_, ?_, ?_, growT s tk, htk.grow hx, canApp_grow hcan, ?_⟩ <;> try (simp only [go_sem, t1, t15, t16, t17] <;> rfl)
          intro y hy
          rw [List.take_add_one, hn] at hy
          rcases List.mem_append.1 hy with hy | hy
          · exact hsm y hy
          · simp at hy; subst hy; exact hbig
      · have h1 : i = l.length := by simp at h1; omega
        subst h1
        rw [List.take_length] at hsm
        rw [textsR, if_neg (by rintro (h | ⟨x, hx, h⟩); exact hb h; exact hsm x hx h)] at hK
        simp -dsimp only [↓reduceIte, go_sem, t1, t6, t15, t16, t17]
        refine build_byte E51 agg5 (by decide) (by decide) ?_
        simp -dsimp only [↓reduceIte, go_sem, t1, t6, t15, t16, t17]
        refine append_bytes E51 S51 hcan (by simp; omega) (by simp [maxL]; omega) ?_
        simp -dsimp only [↓reduceIte, go_sem, t1, t6, t15, t16, t17]
        exact ⟨hx.grow htk, rfl, hK⟩

theorem texts_c {l : List (List UInt8)} {tk0 : Tk} {σ : AST} {K : AV → AST → Prop} (hK : K (textsR l) σ) : TCalls Try.prog 102 [.slice tk0 (l.map AV.str)] σ K := by
  refine tcalls_walk Try.f102 _ [.tmp 2, .tmp 3] Try.func102 rfl rfl rfl mixed (Nat.le_of_ble_eq_true rfl) rfl fun hlen => ?_
  simp -dsimp only [↓reduceIte, go_sem]
  refine listText_c ?_
  unfold textsR at hK ⊢
  split
  · rename_i h
    rw [if_pos h] at hK
    simp -dsimp only [↓reduceIte, go_sem]
    exact hK
  · rename_i h
    rw [if_neg h] at hK
    simp -dsimp only [↓reduceIte, go_sem]
    exact hK

end Go.Aff.L01

namespace Go.Aff.L31
open Go
theorem less_lt {x y : List UInt8} : Op.bytesLess x y = true ↔ x < y := by
  induction x generalizing y with
  | nil => cases y <;> simp [Op.bytesLess]
  | cons a x ih =>
    cases y with
    | nil => simp [Op.bytesLess]
    | cons b y =>
      rw [Op.bytesLess, List.cons_lt_cons_iff]
      by_cases h1 : a < b
      · simp [h1]
      · by_cases h2 : a = b
        · subst h2; simp [h1, ih]
        · simp [h1, h2]
theorem lt_of_leqS {s t : List UInt8} (h : L21.leqS s t = false) : t < s := by
  unfold L21.leqS at h
  rw [Bool.or_eq_false_iff] at h
  obtain ⟨h1, h2⟩ := h
  have h3 : ¬ s < t := fun h => by rw [less_lt.2 h] at h1; cases h1
  have h4 : s ≠ t := by simpa using h2
  rcases List.le_iff_lt_or_eq.1 (List.not_lt.1 h3) with q | q
  · exact q
  · exact absurd q.symm h4
theorem names_lt {l : List (List UInt8)} (h : L21.NamesOk l) : ∀ (d : Nat) {i : Nat} {x y : List UInt8}, l[i]? = some x → l[i + 1 + d]? = some y → x < y
  | 0, i, x, y, hx, hy => lt_of_leqS ((h (i + 1) y hy).2 x (by omega) hx)
  | d + 1, i, x, y, hx, hy => by
    have hl := (List.getElem?_eq_some_iff.1 hy).1
    have hz : l[i + 1 + d]? = some l[i + 1 + d] := List.getElem?_eq_getElem (by omega)
    exact List.lt_trans (names_lt h d hx hz) (lt_of_leqS ((h (i + 1 + (d + 1)) y hy).2 _ (by omega) (by rw [show i + 1 + (d + 1) - 1 = i + 1 + d by omega]; exact hz)))
theorem names_new {l : List (List UInt8)} (h : L21.NamesOk l) {q : Nat} {z : List UInt8} (hz : l[q]? = some z) : ¬ z ∈ l.take q := by
  intro hm
  obtain ⟨k, hk⟩ := List.mem_iff_getElem?.1 hm
  rw [List.getElem?_take] at hk
  split at hk
  · exact List.lt_irrefl _ (names_lt h (q - k - 1) hk (by rw [show k + 1 + (q - k - 1) = q by omega]; exact hz))
  · cases hk
end Go.Aff.L31

