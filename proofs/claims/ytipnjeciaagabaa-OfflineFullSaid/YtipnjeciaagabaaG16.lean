import Derived.Test.YtipnjeciaagabaaG15
import Derived.WalkKit
import Derived.ProofKit
import Derived.OpenShut
import Derived.ShutString
import Derived.ChangeOld
import Derived.Below
import Derived.SizedLaws
import Derived.Carry

set_option linter.unusedSimpArgs false
set_option linter.unusedVariables false

/- The bridge: what the law's arguments are, as abstract values; a law's answer as the statement's. -/
namespace Go.Aff
set_option linter.unusedVariables false
set_option linter.unusedSimpArgs false

open Go.RowKit Go.ChangeShapes Go.WideShapes Go.ChangeAt Go.ChangeMaps

variable {H : Type} {enc : TypeId × Value → H} {P : Program}

/-- Thirty-two bytes are a digest. -/
def aggD (xs : List AV) : AV := match unU8 xs with
  | some l => if h : l.length = 32 then .dig ⟨l, h⟩ else .agg xs
  | none => .agg xs
theorem aggD_ne {xs : List AV} (h : xs.length ≠ 32) : aggD xs = .agg xs := by
  unfold aggD
  split
  · rename_i l hl
    rw [dif_neg (by rw [unU8_length hl]; exact h)]
  · rfl
theorem unU8_bytes : ∀ (l : List UInt8), unU8 (l.map fun b => AV.int .u8 (b.toNat : Int)) = some l
  | [] => rfl
  | b :: r => by simp [unU8, unU8_bytes r]
theorem aggD_dig {l : List UInt8} (h : l.length = 32) : aggD (l.map fun b => AV.int .u8 (b.toNat : Int)) = .dig ⟨l, h⟩ := by
  unfold aggD
  rw [unU8_bytes]
  simp [h]
theorem aggD_cases (xs : List AV) : (∃ d, aggD xs = .dig d) ∨ aggD xs = .agg xs := by
  unfold aggD
  split
  · split
    · exact .inl ⟨_, rfl⟩
    · exact .inr rfl
  · exact .inr rfl
mutual
def absD : DataW H → AV
  | .lit (.bool b) => .bool b
  | .lit (.int k n) => .int k n
  | .lit (.string l) => .str l
  | .nil => .slice .full []
  | .slice es _ => .slice .none (absDs es)
  | .agg ps => aggD (absDs ps)
  | _ => .undef
def absDs : List (DataW H) → List AV
  | [] => []
  | d :: r => absD d :: absDs r
end

theorem absDs_map : ∀ (l : List (DataW H)), absDs l = l.map absD
  | [] => rfl
  | d :: r => by simp [absDs, absDs_map r]

/-- Fields lie one behind the other. -/
def laidFrom (P : Program) : Nat → List Field → Option Nat
  | o, [] => some o
  | o, f :: fs => if f.offset = o then laidFrom P (o + P.cellsOf f.type) fs else none

/-- An array of thirty-two bytes. -/
def arr32 (P : Program) (t : TypeId) (n : Nat) (e : TypeId) : Bool := n == 32 && isU8 P e && P.cellsOf e == 1 && P.cellsOf t == 32
def flatT (P : Program) : Nat → TypeId → Bool
  | 0, _ => false
  | n + 1, t => match P.underlying t with
    | some .bool => true
    | some (.int _) => true
    | some .string => true
    | some (.struct fs) => (fs.size != 32 && laidFrom P 0 fs.toList == some (P.cellsOf t)) && fs.toList.all fun f => flatT P n f.type
    | some (.array k e) => arr32 P t k e
    | _ => false

def plainT (P : Program) : Nat → TypeId → Bool
  | 0, _ => false
  | n + 1, t => match P.underlying t with
    | some .bool => true
    | some (.int _) => true
    | some .string => true
    | some (.slice e) => decide (0 < P.cellsOf e) && plainT P n e
    | some (.struct fs) => (fs.size != 32 && laidFrom P 0 fs.toList == some (P.cellsOf t)) && fs.toList.all fun f => plainT P n f.type
    | some (.array k e) => arr32 P t k e
    | _ => false

def noSpot : Value → Prop
  | .slice (some a) _ _ => a.spot = none
  | _ => True

def isIt (t : Option TypeDesc) (v : AV) : Prop := (match t with | some (.struct _) | some (.array _ _) => true | _ => false) = v.isAgg

variable {g : G} {W : World}

theorem rows_rel {es b : Nat} {o : Nat} : ∀ (els : List AV), (∀ i v, els[i]? = some v → ∃ cs, cs.length = es ∧ relC g W v cs ∧ ∀ j, j < es → W.cell? ⟨b, o + i * es + j, none⟩ = cs[j]?) →
    ∃ css, relEs g W es els css ∧ ∀ j, j < css.length → W.cell? ⟨b, o + j, none⟩ = css[j]?
  | [], h => ⟨[], by simp [relEs], fun j hj => by simp at hj⟩
  | v :: r, h => by
    obtain ⟨c1, hl, hr, hc⟩ := h 0 v rfl
    obtain ⟨c2, hr2, hc2⟩ := rows_rel (es := es) (b := b) (o := o + es) r (fun i u hu => by
      obtain ⟨cs, h1, h2, h3⟩ := h (i + 1) u (by simpa using hu)
      exact ⟨cs, h1, h2, fun j hj => by rw [← h3 j hj]; congr 2; rw [Nat.add_mul]; omega⟩)
    refine ⟨c1 ++ c2, by simp only [relEs]; exact ⟨c1, c2, rfl, hl, hr, hr2⟩, fun j hj => ?_⟩
    by_cases hj1 : j < c1.length
    · rw [List.getElem?_append_left hj1, ← hc j (by omega)]; simp
    · rw [List.getElem?_append_right (by omega), ← hc2 (j - c1.length) (by simp at hj; omega)]
      congr 2; omega

theorem parts_rel {n : Nat} {spare : Nat → Bool} {held : Bool} {N : Nat} (ok : Value → Prop) (T : TypeId → Prop)
    (ih : ∀ t cs x, T t → DataW.trod enc P W 0 spare held n t cs = some x → (∀ c ∈ cs, ok c) → relC g W (absD x.1) cs) :
    ∀ (fs : List Field) (xs : List (DataW H × List MemPlace)) (o : Nat) (cs : List Value), laidFrom P o fs = some N → cs.length = N → (∀ f ∈ fs, T f.type) → (∀ c ∈ cs, ok c) → xs.length = fs.length →
      (∀ (i : Nat) (f : Field), fs[i]? = some f → DataW.trod enc P W 0 spare held n f.type ((cs.drop f.offset).take (P.cellsOf f.type)) = xs[i]?) →
      relPs g W (absDs (xs.map (·.1))) (cs.drop o)
  | [], [], o, cs, hl, hcs, hT, hn, hx, h => by
    simp only [laidFrom, Option.some.injEq] at hl
    simp only [List.map_nil, absDs, relPs]
    exact List.drop_of_length_le (by omega)
  | [], x :: xs, o, cs, hl, hcs, hT, hn, hx, h => by simp at hx
  | f :: fs, [], o, cs, hl, hcs, hT, hn, hx, h => by simp at hx
  | f :: fs, x :: xs, o, cs, hl, hcs, hT, hn, hx, h => by
    simp only [laidFrom] at hl
    split at hl
    · rename_i ho
      have h0 := h 0 f rfl
      simp only [List.getElem?_cons_zero] at h0
      have hr := ih _ _ _ (hT f (by simp)) h0 (fun c hc => hn c (List.mem_of_mem_drop (List.mem_of_mem_take hc)))
      have hr2 := parts_rel ok T ih fs xs _ cs hl hcs (fun f hf => hT f (by simp [hf])) hn (by simpa using hx) (fun i f hf => by simpa using h (i + 1) f (by simpa using hf))
      simp only [List.map_cons, absDs, relPs]
      refine ⟨_, _, ?_, hr, hr2⟩
      rw [ho, ← List.drop_drop]
      exact (List.take_append_drop _ _).symm
    · cases hl

theorem isU8_iff {e : TypeId} (h : isU8 P e = true) : P.underlying e = some (.int .u8) := by
  unfold isU8 at h; split at h
  · assumption
  · cases h
theorem bytes_of {spare : Nat → Bool} {held : Bool} {m : Nat} {e : TypeId} (he : P.underlying e = some (.int .u8)) : ∀ (cs : List Value) (xs : List (DataW H × List MemPlace)), cs.length = xs.length →
    (∀ i, i < cs.length → DataW.trod enc P W 0 spare held m e ((cs.drop i).take 1) = xs[i]?) → ∃ l : List UInt8, cs = l.map (fun b => Value.int .u8 b.toNat) ∧ absDs (xs.map (·.1)) = l.map (fun b => AV.int .u8 (b.toNat : Int))
  | [], [], hl, h => ⟨[], rfl, rfl⟩
  | [], x :: xs, hl, h => by simp at hl
  | c :: cs, [], hl, h => by simp at hl
  | c :: cs, x :: xs, hl, h => by
    obtain ⟨l, h1, h2⟩ := bytes_of he cs xs (by simpa using hl) (fun i hi => by simpa using h (i + 1) (by simpa using hi))
    have h0 := h 0 (by simp)
    simp only [List.drop_zero, List.take_succ_cons, List.take_zero, List.getElem?_cons_zero] at h0
    obtain ⟨n, hc, rfl, hw⟩ := DataW.trod_int he h0
    simp only [List.cons.injEq, and_true] at hc
    subst hc
    have hr : (IntKind.u8).min ≤ n ∧ n ≤ (IntKind.u8).max := by simpa [Lit.wf] using hw
    have hr : 0 ≤ n ∧ n ≤ 255 := hr
    have e1 : (((UInt8.ofNat n.toNat).toNat : Nat) : Int) = n := by
      rw [UInt8.toNat_ofNat']
      omega
    refine ⟨UInt8.ofNat n.toNat :: l, ?_, ?_⟩
    · rw [List.map_cons, e1, ← h1]
    · rw [List.map_cons, List.map_cons, absDs, h2, e1]; rfl
theorem arr_of {spare : Nat → Bool} {held : Bool} {n k : Nat} {t e : TypeId} {cs : List Value} {x : DataW H × List MemPlace} (hu : P.underlying t = some (.array k e)) (ha : arr32 P t k e = true) (h : DataW.trod enc P W 0 spare held n t cs = some x) :
    ∃ d : Dig, absD x.1 = .dig d ∧ cs = d.l.map fun b => Value.int .u8 b.toNat := by
  unfold arr32 at ha
  simp only [Bool.and_eq_true, beq_iff_eq] at ha
  obtain ⟨⟨⟨rfl, h8⟩, h1⟩, h32⟩ := ha
  obtain ⟨xs, m, rfl, rfl, hcl, hxl, hx⟩ := DataW.trod_array hu h
  rw [h1] at hx
  obtain ⟨l, e1, e2⟩ := bytes_of (isU8_iff h8) cs xs (by omega) (fun i hi => by simpa using hx i (by omega))
  have hl : l.length = 32 := by
    have := congrArg List.length e1
    rw [List.length_map] at this; omega
  refine ⟨⟨l, hl⟩, ?_, e1⟩
  simp only [absD]
  rw [e2, aggD_dig hl]

theorem flat_rel {spare : Nat → Bool} {held : Bool} : ∀ (n m : Nat) (t : TypeId) (cs : List Value) (x : DataW H × List MemPlace), flatT P m t = true → DataW.trod enc P W 0 spare held n t cs = some x → relC g W (absD x.1) cs
  | 0, m, t, cs, x, hf, h => by simp [DataW.trod] at h
  | n + 1, 0, t, cs, x, hf, h => by simp [flatT] at hf
  | n + 1, m + 1, t, cs, x, hf, h => by
    unfold flatT at hf
    split at hf
    · rename_i hu; obtain ⟨b, rfl, rfl⟩ := DataW.trod_bool hu h; simp [absD, relC]
    · rename_i hu; obtain ⟨b, rfl, rfl, _⟩ := DataW.trod_int hu h; simp [absD, relC]
    · rename_i hu; obtain ⟨s, rfl, rfl, hs⟩ := DataW.trod_string hu h
      simp only [absD, relC]
      refine ⟨by simp, ?_⟩
      have : s.size = s.data.toList.length := by simp
      have h2 : maxLen ≤ maxL := by decide
      omega
    · rename_i fs hu
      simp only [Bool.and_eq_true, beq_iff_eq, bne_iff_ne, ne_eq, List.all_eq_true] at hf
      obtain ⟨⟨hne, hlaid⟩, hall⟩ := hf
      obtain ⟨xs, n', hn, rfl, hl, hxl, hx⟩ := DataW.trod_struct hu h
      cases hn
      have hf := And.intro hlaid hall
      simp only [absD]
      rw [aggD_ne (by rw [absDs_map, List.length_map, List.length_map, hxl]; simpa using hne)]
      simp only [relC]
      exact parts_rel (g := g) (W := W) (enc := enc) (P := P) (n := n) (spare := spare) (held := held) (fun _ => True) (fun t => flatT P m t = true) (fun t cs x ht hx _ => flat_rel n m t cs x ht hx) fs.toList xs 0 cs hf.1 hl (fun f hf' => hf.2 f hf') (fun _ _ => trivial) (by simpa using hxl) (fun i f hf' => hx i f (by simpa using hf'))
    · rename_i k e hu
      obtain ⟨d, h1, h2⟩ := arr_of hu hf h
      rw [h1]; simp only [relC]; exact h2
    · cases hf

theorem rd_of {b o : Nat} {css : List Value} (h : ∀ j, j < css.length → W.cell? ⟨b, o + j, none⟩ = css[j]?) : css = [] ∨ rd W b o css := by
  rcases css with _ | ⟨c, r⟩
  · exact .inl rfl
  refine .inr ?_
  have h0 := h 0 (by simp)
  unfold World.cell? at h0
  split at h0
  · rename_i cc e fr hc
    refine ⟨cc, e, fr, hc, fun j hj => ?_⟩
    have := h j hj
    unfold World.cell? at this
    dsimp only at this hc
    rw [hc] at this
    simpa using this
  · simp at h0

theorem plain_rel (hg : W.heap.size ≤ g.base) {spare : Nat → Bool} {held : Bool} (hsp : ∀ b, spare b = true) : ∀ (n m : Nat) (t : TypeId) (cs : List Value) (x : DataW H × List MemPlace), plainT P m t = true → DataW.trod enc P W 0 spare held n t cs = some x → relC g W (absD x.1) cs
  | 0, m, t, cs, x, hf, h => by simp [DataW.trod] at h
  | n + 1, 0, t, cs, x, hf, h => by simp [plainT] at hf
  | n + 1, m + 1, t, cs, x, hf, h => by
    unfold plainT at hf
    split at hf
    · rename_i hu; obtain ⟨b, rfl, rfl⟩ := DataW.trod_bool hu h; simp [absD, relC]
    · rename_i hu; obtain ⟨b, rfl, rfl, _⟩ := DataW.trod_int hu h; simp [absD, relC]
    · rename_i hu; obtain ⟨s, rfl, rfl, hs⟩ := DataW.trod_string hu h
      simp only [absD, relC]
      refine ⟨by simp, ?_⟩
      have : s.size = s.data.toList.length := by simp
      have h2 : maxLen ≤ maxL := by decide
      omega
    · rename_i e hu
      simp only [Bool.and_eq_true, decide_eq_true_eq] at hf
      rcases DataW.trod_slice hu h with ⟨rfl, rfl⟩ | ⟨a, len, cap, elems, rest, n', hn', rfl, rfl, hb, hl, hm, hlen, hel, hrest, -⟩
      · simp only [absD]; exact relC_nil g W
      · cases hn'
        by_cases hcap : cap = 0
        · subst hcap
          obtain rfl : len = 0 := by omega
          obtain rfl := List.length_eq_zero_iff.1 hlen
          simp only [absD, relC, List.map_nil, absDs]
          exact ⟨some a, none, 0, P.cellsOf e, [], rfl, .inr ⟨rfl, rfl⟩, by simp [relEs], Nat.le_refl _, by decide, fun _ => rfl, (fun b o h => by cases h), trivial⟩
        have hs : a.spot = none := by
          obtain ⟨hr1, hr2⟩ := hrest (hsp _)
          have key : ∀ (y : Option (DataW H × List MemPlace)), (World.cells? W 0 (a.add (0 * P.cellsOf e)) (P.cellsOf e)).bind (DataW.trod enc P W 0 spare held n e) = y → y.isSome = true → a.spot = none := by
            intro y hy hsome
            cases y with
            | none => cases hsome
            | some y =>
              rw [Option.bind_eq_some_iff] at hy
              obtain ⟨cs, hcs, _⟩ := hy
              obtain ⟨_, hcl, hcell⟩ := World.cells?_some hcs
              have h0 := hcell 0 hf.1
              have : ∃ v, cs[0]? = some v := ⟨cs[0]'(by omega), List.getElem?_eq_getElem _⟩
              obtain ⟨v, hv⟩ := this
              rw [hv] at h0
              simpa [Addr.add] using World.cell?_spot h0
          by_cases hl0 : len = 0
          · subst hl0
            refine key _ (by simpa using hr2 0 (by omega)) ?_
            rw [List.getElem?_eq_getElem (by omega)]; rfl
          · refine key _ (hel 0 (by omega)) ?_
            rw [List.getElem?_eq_getElem (by omega)]; rfl
        simp only [absD, relC]
        obtain ⟨css, hr, hc⟩ := rows_rel (g := g) (W := W) (es := P.cellsOf e) (b := a.block) (o := a.off) (absDs (elems.map (·.1))) (fun i v hv => by
          rw [absDs_map, List.map_map, List.getElem?_map, Option.map_eq_some_iff] at hv
          obtain ⟨y, hy, rfl⟩ := hv
          have hi : i < elems.length := (List.getElem?_eq_some_iff.1 hy).1
          have := hel i (by omega)
          rw [hy, Option.bind_eq_some_iff] at this
          obtain ⟨cs, hcs, ht⟩ := this
          obtain ⟨_, hcl, hcell⟩ := World.cells?_some hcs
          refine ⟨cs, hcl, plain_rel hg hsp n m e cs y hf.2 ht, fun j hj => ?_⟩
          rw [← hcell j hj]
          congr 1
          unfold Addr.add
          obtain ⟨b, o, sp⟩ := a
          dsimp only at hs; subst hs
          split <;> split <;> simp_all <;> omega)
        refine ⟨some a, some (a.block, a.off), cap, P.cellsOf e, css, by simp [absDs_map, hlen], .inl ?_, hr, ?_, ?_, (fun h => by cases h), (fun b o hbo => ?_), trivial⟩
        · obtain ⟨b, o, sp⟩ := a
          dsimp only at hs; subst hs
          rfl
        · simpa [absDs_map, hlen] using hl
        · have h2 : maxLen ≤ maxL := by decide
          omega
        · simp only [Option.some.injEq, Prod.mk.injEq] at hbo
          obtain ⟨rfl, rfl⟩ := hbo
          rcases rd_of hc with h0 | h0
          · exact .inl h0
          · refine .inr ⟨h0, .inl ?_⟩
            obtain ⟨c, el, fr, hcc, _⟩ := h0
            have := (Array.getElem?_eq_some_iff.1 hcc).1
            omega
    · rename_i fs hu
      simp only [Bool.and_eq_true, beq_iff_eq, bne_iff_ne, ne_eq, List.all_eq_true] at hf
      obtain ⟨⟨hne, hlaid⟩, hall⟩ := hf
      obtain ⟨xs, n', hn', rfl, hl, hxl, hx⟩ := DataW.trod_struct hu h
      cases hn'
      have hf := And.intro hlaid hall
      simp only [absD]
      rw [aggD_ne (by rw [absDs_map, List.length_map, List.length_map, hxl]; simpa using hne)]
      simp only [relC]
      exact parts_rel (g := g) (W := W) (enc := enc) (P := P) (n := n) (spare := spare) (held := held) (fun _ => True) (fun t => plainT P m t = true) (fun t cs x ht hx _ => plain_rel hg hsp n m t cs x ht hx) fs.toList xs 0 cs hf.1 hl (fun f hf' => hf.2 f hf') (fun _ _ => trivial) (by simpa using hxl) (fun i f hf' => by simpa using hx i f (by simpa using hf'))
    · rename_i k e hu
      obtain ⟨d, h1, h2⟩ := arr_of hu hf h
      rw [h1]; simp only [relC]; exact h2
    · cases hf

/-! ### What is known of an argument -/

mutual
/-- A value of a plain type. -/
def ShT (P : Program) : Nat → TypeId → AV → Prop
  | 0, _, _ => False
  | n + 1, t, v => match P.underlying t with
    | some .bool => ∃ b, v = .bool b
    | some (.int k) => ∃ i, v = .int k i ∧ k.min ≤ i ∧ i ≤ k.max
    | some .string => ∃ s, v = .str s
    | some (.slice e) => ∃ tk xs, v = .slice tk xs ∧ ∀ x ∈ xs, ShT P n e x
    | some (.struct fs) => ∃ ps, v = .agg ps ∧ ShTs P n fs.toList ps
    | some (.array _ _) => ∃ d, v = .dig d
    | _ => False
def ShTs (P : Program) : Nat → List Field → List AV → Prop
  | _, [], [] => True
  | 0, _, _ => False
  | n + 1, f :: fs, p :: ps => ShT P n f.type p ∧ ShTs P n fs ps
  | _, _, _ => False
end

def ShAll (P : Program) (n : Nat) : List TypeId → List AV → Prop
  | [], [] => True
  | t :: ts, v :: vs => ShT P n t v ∧ ShAll P n ts vs
  | _, _ => False

mutual
def shOk (P : Program) : Nat → TypeId → Bool
  | 0, _ => false
  | n + 1, t => match P.underlying t with
    | some .bool => true
    | some (.int _) => true
    | some .string => true
    | some (.slice e) => shOk P n e
    | some (.struct fs) => fs.size != 32 && shOks P n fs.toList
    | some (.array k e) => arr32 P t k e
    | _ => false
def shOks (P : Program) : Nat → List Field → Bool
  | _, [] => true
  | 0, _ => false
  | n + 1, f :: fs => shOk P n f.type && shOks P n fs
end

theorem wf_range {k : IntKind} {n : Int} (h : (Lit.int k n).wf = true) : k.min ≤ n ∧ n ≤ k.max := by
  simpa [Lit.wf] using h

mutual
theorem sh_of {held : Bool} {spare : Nat → Bool} : ∀ (n m : Nat) (t : TypeId) (cs : List Value) (x : DataW H × List MemPlace), shOk P m t = true → DataW.trod enc P W 0 spare held n t cs = some x → ShT P m t (absD x.1)
  | 0, m, t, cs, x, hf, h => by simp [DataW.trod] at h
  | n + 1, 0, t, cs, x, hf, h => by simp [shOk] at hf
  | n + 1, m + 1, t, cs, x, hf, h => by
    unfold shOk at hf; unfold ShT
    split at hf
    · rename_i hu; obtain ⟨b, rfl, rfl⟩ := DataW.trod_bool hu h; simp [absD, hu]
    · rename_i hu; obtain ⟨b, rfl, rfl, hw⟩ := DataW.trod_int hu h; simp only [absD, hu]; exact ⟨_, rfl, wf_range hw⟩
    · rename_i hu; obtain ⟨s, rfl, rfl, hs⟩ := DataW.trod_string hu h; simp [absD, hu]
    · rename_i e hu
      try simp only [hu]
      rcases DataW.trod_slice hu h with ⟨rfl, rfl⟩ | ⟨a, len, cap, elems, rest, n', hn', rfl, rfl, hb, hl, hm, hlen, hel, -, -⟩
      · simp only [absD]; exact ⟨_, _, rfl, fun x hx => by simp at hx⟩
      · cases hn'
        simp only [absD, absDs_map]
        refine ⟨_, _, rfl, fun v hv => ?_⟩
        rw [List.map_map] at hv
        obtain ⟨y, hy, rfl⟩ := List.mem_map.1 hv
        obtain ⟨i, hi⟩ := List.mem_iff_getElem?.1 hy
        have hlt := (List.getElem?_eq_some_iff.1 hi).1
        have := hel i (by omega)
        rw [hi, Option.bind_eq_some_iff] at this
        obtain ⟨cs', _, ht⟩ := this
        exact sh_of n m e cs' y hf ht
    · rename_i fs hu
      try simp only [hu]
      simp only [Bool.and_eq_true, bne_iff_ne, ne_eq] at hf
      obtain ⟨hne, hf⟩ := hf
      obtain ⟨xs, n', hn', rfl, hl, hxl, hx⟩ := DataW.trod_struct hu h
      cases hn'
      simp only [absD]
      rw [aggD_ne (by rw [absDs_map, List.length_map, List.length_map, hxl]; simpa using hne)]
      exact ⟨_, rfl, shs_of n m fs.toList xs cs hf (by simpa using hxl) (fun i f hf' => hx i f (by simpa using hf'))⟩
    · rename_i k e hu
      try simp only [hu]
      obtain ⟨d, h1, h2⟩ := arr_of hu hf h
      exact ⟨d, h1⟩
    · cases hf
theorem shs_of {held : Bool} {spare : Nat → Bool} : ∀ (n m : Nat) (fs : List Field) (xs : List (DataW H × List MemPlace)) (cs : List Value), shOks P m fs = true → xs.length = fs.length →
    (∀ (i : Nat) (f : Field), fs[i]? = some f → DataW.trod enc P W 0 spare held n f.type ((cs.drop f.offset).take (P.cellsOf f.type)) = xs[i]?) → ShTs P m fs (absDs (xs.map (·.1)))
  | n, m, [], [], cs, hf, hl, h => by cases m <;> simp [absDs, ShTs]
  | n, m, [], x :: xs, cs, hf, hl, h => by simp at hl
  | n, m, f :: fs, [], cs, hf, hl, h => by simp at hl
  | n, 0, f :: fs, x :: xs, cs, hf, hl, h => by simp [shOks] at hf
  | n, m + 1, f :: fs, x :: xs, cs, hf, hl, h => by
    simp only [shOks, Bool.and_eq_true] at hf
    simp only [List.map_cons, absDs, ShTs]
    have h0 := h 0 f rfl
    exact ⟨sh_of n m f.type _ x hf.1 h0, shs_of n m fs xs cs hf.2 (by simpa using hl) (fun i f hf => by simpa using h (i + 1) f (by simpa using hf))⟩
end

theorem cell_noSpot {b : Nat} {t : TypeId} {v : Value} (h : Cell.okWide P W .any b t v) : noSpot v := by
  unfold noSpot
  split
  · rename_i a l c
    unfold Cell.okWide at h
    split at h <;> simp_all
    unfold Cell.ok at h
    split at h <;> simp_all [World.has]
  · trivial

theorem ok_noSpot {b : Nat} {t : TypeId} {v : Value} (h : Value.okWide P W .any b t v) : ∀ c ∈ v.cells.toList, noSpot c := by
  unfold Value.okWide at h
  have row : (∃ cs, v = .agg cs ∧ cs.size = P.cellsOf t ∧ Row.okWide P W .any b t cs) → ∀ c ∈ v.cells.toList, noSpot c := by
    rintro ⟨cs, rfl, _, ts, _, _, hr⟩ c hc
    simp only [Value.cells] at hc
    obtain ⟨i, hi⟩ := List.mem_iff_getElem?.1 hc
    obtain ⟨u, _, hu⟩ := hr i c (by simpa using hi)
    exact cell_noSpot hu
  split at h
  · exact row h
  · exact row h
  · intro c hc
    have h1 := cell_noSpot h
    cases v <;> simp_all [Value.cells]
    case agg cs => unfold Cell.okWide at h; split at h <;> simp_all; unfold Cell.ok at h; split at h <;> simp_all

theorem ok_agg {b : Nat} {m : Nat} {t : TypeId} {v : Value} {x : AV} (hp : shOk P m t = true) (hs : ShT P m t x) (h : Value.okWide P W .any b t v) : x.isAgg = vAgg v := by
  cases m with
  | zero => simp [shOk] at hp
  | succ m =>
    unfold Value.okWide at h
    unfold ShT at hs
    unfold shOk at hp
    split at hp
    · rename_i hu; simp only [hu] at hs h; obtain ⟨_, rfl⟩ := hs; unfold Cell.okWide at h; cases v <;> simp_all [Cell.ok, vAgg, AV.isAgg]
    · rename_i hu; simp only [hu] at hs h; obtain ⟨_, rfl, _⟩ := hs; unfold Cell.okWide at h; cases v <;> simp_all [Cell.ok, vAgg, AV.isAgg]
    · rename_i hu; simp only [hu] at hs h; obtain ⟨_, rfl⟩ := hs; unfold Cell.okWide at h; cases v <;> simp_all [Cell.ok, vAgg, AV.isAgg]
    · rename_i hu; simp only [hu] at hs h; obtain ⟨_, _, rfl, _⟩ := hs; unfold Cell.okWide at h; cases v <;> simp_all [Cell.ok, vAgg, AV.isAgg]
    · rename_i hu; simp only [hu] at hs h; obtain ⟨_, rfl, _⟩ := hs; obtain ⟨cs, rfl, _⟩ := h; simp [AV.isAgg, vAgg]
    · rename_i hu; simp only [hu] at hs h; obtain ⟨_, rfl⟩ := hs; obtain ⟨cs, rfl, _⟩ := h; simp [AV.isAgg, vAgg]
    · cases hp


theorem args_rel (hg : W.heap.size ≤ g.base) {base : Nat} : ∀ (ts : List TypeId) (vs : List Value) (ds : List (DataW H)) (ps : List MemPlace), (ts.all fun t => plainT P 12 t && shOk P 12 t) = true →
    DataW.TrodAll enc P W 0 (fun _ => true) true ts vs ds ps → (∀ (j : Nat) t v, ts[j]? = some t → vs[j]? = some v → Value.okWide P W .any base t v) → relA g W (ds.map absD) vs ∧ ShAll P 12 ts (ds.map absD)
  | [], [], [], ps, hp, h, hv => ⟨⟨rfl, fun i v x h => by simp at h⟩, trivial⟩
  | t :: ts, v :: vs, d :: ds, ps, hp, h, hv => by
    obtain ⟨p, q, ⟨fuel, hd⟩, hr, rfl⟩ := h
    simp only [List.all_cons, Bool.and_eq_true] at hp
    have hok := hv 0 t v rfl rfl
    have h1 := plain_rel (g := g) hg (fun _ => rfl) fuel 12 t _ _ hp.1.1 hd
    have h2 := sh_of fuel 12 t _ _ hp.1.2 hd
    obtain ⟨⟨hl, hA⟩, hS⟩ := args_rel hg ts vs ds q hp.2 hr (fun j t v ht hv' => hv (j + 1) t v (by simpa using ht) (by simpa using hv'))
    refine ⟨⟨by simpa using hl, fun i u x hu hx => ?_⟩, h2, hS⟩
    cases i with
    | zero => simp at hu hx; subst hu hx; exact .inr (.inr ⟨h1, ok_agg hp.1.2 h2 hok⟩)
    | succ i => exact hA i u x (by simpa using hu) (by simpa using hx)
  | [], _ :: _, _, _, _, h, _ => h.elim
  | [], [], _ :: _, _, _, h, _ => h.elim
  | _ :: _, [], _, _, _, h, _ => h.elim
  | _ :: _, _ :: _, [], _, _, h, _ => h.elim

theorem args_stay {W' : World} (hl : laidOutB P = true) (hb : Below W.heap.size W W') : ∀ (ts : List TypeId) (vs : List Value) (ds : List (DataW H)) (ps : List MemPlace), (ts.all fun t => P.readableRec t && decide (t < P.types.size)) = true →
    DataW.TrodAll enc P W 0 (fun _ => true) true ts vs ds ps → DataW.TrodAll enc P W' 0 (fun b => decide (b < W.heap.size)) true ts vs ds ps
  | [], [], [], ps, hp, h => h
  | t :: ts, v :: vs, d :: ds, ps, hp, h => by
    obtain ⟨p, q, hd, hr, rfl⟩ := h
    simp only [List.all_cons, Bool.and_eq_true, decide_eq_true_eq] at hp
    refine ⟨p, q, Below.trod hl hp.1.1 hp.1.2 hd hb ?_, args_stay hl hb ts vs ds q hp.2 hr, rfl⟩
    obtain ⟨m, hm⟩ := hd
    exact DataW.trod_lt m _ _ _ hm
  | [], _ :: _, _, _, _, h => h.elim
  | [], [], _ :: _, _, _, h => h.elim
  | _ :: _, [], _, _, _, h => h.elim
  | _ :: _, _ :: _, [], _, _, h => h.elim

theorem trodAll_len : ∀ (ts : List TypeId) (vs : List Value) (ds : List (DataW H)) (ps : List MemPlace) {sp : Nat → Bool}, DataW.TrodAll enc P W 0 sp true ts vs ds ps → ds.length = ts.length
  | [], [], [], ps, sp, h => rfl
  | t :: ts, v :: vs, d :: ds, ps, sp, h => by
    obtain ⟨p, q, hd, hr, rfl⟩ := h
    simp [trodAll_len ts vs ds q hr]
  | [], _ :: _, _, _, _, h => h.elim
  | [], [], _ :: _, _, _, h => h.elim
  | _ :: _, [], _, _, _, h => h.elim
  | _ :: _, _ :: _, [], _, _, h => h.elim

theorem trodVars_nil {gs : List (DataW H)} {q : List MemPlace} (h : DataW.TrodVars enc P W (fun _ => true) [] gs q) : gs = [] ∧ q = [] := by
  cases gs with
  | nil => exact ⟨rfl, h⟩
  | cons d r => exact h.elim

/-- A law's contract, and what is asked of the program, give what its statement asks. -/
theorem lift_law {C : Checked} {os : Os} {f : FuncId} {fn : Func} {s : ChangeSpec} {conds : List PathCond} {tb : TypeId} (own : ownKnob C.prog.godebug = none) (started : os.Started) (noInit : C.prog.inits.idxOf? f = none) (hfn : C.prog.funcs[f]? = some fn)
    (witness : ∃ (w : World) (tape : Tape) (i : Input), w.os = os ∧ (w.forCall tape i).Shaped C.prog ∧ i.vars = [] ∧ Input.okWide C.prog (w.forCall tape i) .any w.heap.size f i ∧
      s.pre6 enc C.prog fn conds false (w.forCall tape i).memory i.args ∧ Assume.holds {} C.prog (lone (Frame.enter C.prog f i.args .normal) [] (w.forCall tape i)))
    (hvars : s.vars = []) (hs : ∀ ds : List (DataW H), ds.length = fn.params.toList.length → s.fn H ds = { results := [.lit (.bool true)], args := ds }) (hl : laidOutB C.prog = true)
    (hp : (fn.params.toList.all fun t => plainT C.prog 12 t && shOk C.prog 12 t) = true) (hr : (fn.params.toList.all fun t => C.prog.readableRec t && decide (t < C.prog.types.size)) = true)
    (hres : fn.resultTypes = #[tb]) (hb : C.prog.underlying tb = some .bool)
    (law : ∀ vs, ShAll C.prog 12 fn.params.toList vs → TCalls C.prog f vs ⟨[], []⟩ fun v _ => v = .bool true) :
    ReturnsInHanded {} C os f .any (s.pre6 enc C.prog fn conds false) (s.post enc C.prog fn false true false false) := by
  refine returnsInHanded_of_change_sized own started noInit hfn witness ?_
  intro W base args ds gs before hval hW _ _ _
  obtain ⟨p, q, hA, hV, rfl, hfz, hnd⟩ := id hW
  rw [hvars] at hV
  obtain ⟨rfl, rfl⟩ := trodVars_nil hV
  let g0 : G := ⟨W.heap.size, [], fun _ => none, []⟩
  have hrel := args_rel (g := g0) (enc := enc) (P := C.prog) (W := W) (base := base) (Nat.le_refl _) fn.params.toList args.toList ds p hp hA (fun j t v ht hv => hval j t v (by simpa using ht) (by simpa using hv))
  have hI : Inv g0 ⟨[], []⟩ W := by
    refine ⟨Nat.le_refl _, rfl, ?_, ?_, ?_, rfl, ?_, ?_⟩
    · intro i o h; simp at h
    · intro i j o o' b sh sh' h; simp at h
    · intro b L h; cases h
    · intro t e h; simp [g0] at h
    · intro t u e e' b o o' h; simp [g0] at h
  refine ((law _ hrel.2).2 g0 W args hI hrel.1).mono ?_
  rintro e W' ⟨x, g', v, σ', he, hE, hI', hv, rfl⟩
  have hx : x = .bool true := relV_bool hv
  subst hx
  subst he
  have bel : Below W.heap.size W W' := ⟨hE.os, hE.tape, hE.output, hE.size, fun k hk => hE.old k hk⟩
  have hlen := trodAll_len _ _ _ _ hA
  refine ⟨_, rfl, ds, [], p ++ [], [], p, [], hW, ?_, ?_, ?_, bel.frame _, fun h => by cases h⟩
  · rw [List.append_nil, hs ds hlen, hres]
    exact trodAll_mk1 (shut_bool hb _)
  · rw [List.append_nil, hs ds hlen]
    exact args_stay hl bel _ _ _ _ hr hA
  · rw [List.append_nil, hs ds hlen, hvars]
    rfl


theorem shAll_nil {n : Nat} {vs : List AV} (h : ShAll P n [] vs) : vs = [] := by
  cases vs with
  | nil => rfl
  | cons _ _ => exact h.elim
theorem shAll_cons {n : Nat} {t : TypeId} {ts : List TypeId} {vs : List AV} (h : ShAll P n (t :: ts) vs) : ∃ v r, vs = v :: r ∧ ShT P n t v ∧ ShAll P n ts r := by
  cases vs with
  | nil => exact h.elim
  | cons v r => exact ⟨v, r, rfl, h.1, h.2⟩
theorem sh_int {n : Nat} {t : TypeId} {k : IntKind} {v : AV} (hu : P.underlying t = some (.int k)) (h : ShT P (n + 1) t v) : ∃ i, v = .int k i ∧ k.min ≤ i ∧ i ≤ k.max := by
  unfold ShT at h; rw [hu] at h; exact h
theorem sh_bool {n : Nat} {t : TypeId} {v : AV} (hu : P.underlying t = some .bool) (h : ShT P (n + 1) t v) : ∃ b, v = .bool b := by
  unfold ShT at h; rw [hu] at h; exact h
theorem sh_str {n : Nat} {t : TypeId} {v : AV} (hu : P.underlying t = some .string) (h : ShT P (n + 1) t v) : ∃ s, v = .str s := by
  unfold ShT at h; rw [hu] at h; exact h
theorem sh_slice {n : Nat} {t e : TypeId} {v : AV} (hu : P.underlying t = some (.slice e)) (h : ShT P (n + 1) t v) : ∃ tk xs, v = .slice tk xs ∧ ∀ x ∈ xs, ShT P n e x := by
  unfold ShT at h; rw [hu] at h; exact h
theorem sh_struct {n : Nat} {t : TypeId} {fs : Array Field} {v : AV} (hu : P.underlying t = some (.struct fs)) (h : ShT P (n + 1) t v) : ∃ ps, v = .agg ps ∧ ShTs P n fs.toList ps := by
  unfold ShT at h; rw [hu] at h; exact h
theorem sh_dig {n k : Nat} {t e : TypeId} {v : AV} (hu : P.underlying t = some (.array k e)) (h : ShT P (n + 1) t v) : ∃ d, v = .dig d := by
  unfold ShT at h; rw [hu] at h; exact h
theorem shTs_nil {n : Nat} {ps : List AV} (h : ShTs P n [] ps) : ps = [] := by
  cases ps with
  | nil => rfl
  | cons _ _ => cases n <;> exact h.elim
theorem shTs_cons {n : Nat} {f : Field} {fs : List Field} {ps : List AV} (h : ShTs P (n + 1) (f :: fs) ps) : ∃ p r, ps = p :: r ∧ ShT P n f.type p ∧ ShTs P n fs r := by
  cases ps with
  | nil => exact h.elim
  | cons p r => exact ⟨p, r, rfl, h.1, h.2⟩
theorem i64_range {i : Int} (h0 : IntKind.i64.min ≤ i) (h1 : i ≤ IntKind.i64.max) : -9223372036854775808 ≤ i ∧ i ≤ 9223372036854775807 := ⟨h0, h1⟩
/-- A list of such values is the image of a list. -/
theorem map_of {α : Type} {f : α → AV} {p : α → Prop} : ∀ {xs : List AV}, (∀ x ∈ xs, ∃ a, x = f a ∧ p a) → ∃ l : List α, xs = l.map f ∧ ∀ a ∈ l, p a
  | [], h => ⟨[], rfl, by simp⟩
  | x :: r, h => by
    obtain ⟨a, ha, hp⟩ := h x (by simp)
    obtain ⟨l, hl, hq⟩ := map_of (xs := r) fun y hy => h y (by simp [hy])
    exact ⟨a :: l, by simp [ha, hl], by simpa using ⟨hp, hq⟩⟩

end Go.Aff

/- The bridge, for structs of many parts. -/
namespace Go.Aff
set_option linter.unusedVariables false
set_option linter.unusedSimpArgs false

open Go.RowKit Go.ChangeShapes Go.WideShapes Go.ChangeAt Go.ChangeMaps

variable {H : Type} {enc : TypeId × Value → H} {P : Program}
variable {g : G} {W : World}

theorem args_rel_n {N : Nat} (hg : W.heap.size ≤ g.base) {base : Nat} : ∀ (ts : List TypeId) (vs : List Value) (ds : List (DataW H)) (ps : List MemPlace), (ts.all fun t => plainT P N t && shOk P N t) = true →
    DataW.TrodAll enc P W 0 (fun _ => true) true ts vs ds ps → (∀ (j : Nat) t v, ts[j]? = some t → vs[j]? = some v → Value.okWide P W .any base t v) → relA g W (ds.map absD) vs ∧ ShAll P N ts (ds.map absD)
  | [], [], [], ps, hp, h, hv => ⟨⟨rfl, fun i v x h => by simp at h⟩, trivial⟩
  | t :: ts, v :: vs, d :: ds, ps, hp, h, hv => by
    obtain ⟨p, q, ⟨fuel, hd⟩, hr, rfl⟩ := h
    simp only [List.all_cons, Bool.and_eq_true] at hp
    have hok := hv 0 t v rfl rfl
    have h1 := plain_rel (g := g) hg (fun _ => rfl) fuel N t _ _ hp.1.1 hd
    have h2 := sh_of fuel N t _ _ hp.1.2 hd
    obtain ⟨⟨hl, hA⟩, hS⟩ := args_rel_n hg ts vs ds q hp.2 hr (fun j t v ht hv' => hv (j + 1) t v (by simpa using ht) (by simpa using hv'))
    refine ⟨⟨by simpa using hl, fun i u x hu hx => ?_⟩, h2, hS⟩
    cases i with
    | zero => simp at hu hx; subst hu hx; exact .inr (.inr ⟨h1, ok_agg hp.1.2 h2 hok⟩)
    | succ i => exact hA i u x (by simpa using hu) (by simpa using hx)
  | [], _ :: _, _, _, _, h, _ => h.elim
  | [], [], _ :: _, _, _, h, _ => h.elim
  | _ :: _, [], _, _, _, h, _ => h.elim
  | _ :: _, _ :: _, [], _, _, h, _ => h.elim


theorem lift_law_n {N : Nat} {C : Checked} {os : Os} {f : FuncId} {fn : Func} {s : ChangeSpec} {conds : List PathCond} {tb : TypeId} (own : ownKnob C.prog.godebug = none) (started : os.Started) (noInit : C.prog.inits.idxOf? f = none) (hfn : C.prog.funcs[f]? = some fn)
    (witness : ∃ (w : World) (tape : Tape) (i : Input), w.os = os ∧ (w.forCall tape i).Shaped C.prog ∧ i.vars = [] ∧ Input.okWide C.prog (w.forCall tape i) .any w.heap.size f i ∧
      s.pre6 enc C.prog fn conds false (w.forCall tape i).memory i.args ∧ Assume.holds {} C.prog (lone (Frame.enter C.prog f i.args .normal) [] (w.forCall tape i)))
    (hvars : s.vars = []) (hs : ∀ ds : List (DataW H), ds.length = fn.params.toList.length → s.fn H ds = { results := [.lit (.bool true)], args := ds }) (hl : laidOutB C.prog = true)
    (hp : (fn.params.toList.all fun t => plainT C.prog N t && shOk C.prog N t) = true) (hr : (fn.params.toList.all fun t => C.prog.readableRec t && decide (t < C.prog.types.size)) = true)
    (hres : fn.resultTypes = #[tb]) (hb : C.prog.underlying tb = some .bool)
    (law : ∀ vs, ShAll C.prog N fn.params.toList vs → TCalls C.prog f vs ⟨[], []⟩ fun v _ => v = .bool true) :
    ReturnsInHanded {} C os f .any (s.pre6 enc C.prog fn conds false) (s.post enc C.prog fn false true false false) := by
  refine returnsInHanded_of_change_sized own started noInit hfn witness ?_
  intro W base args ds gs before hval hW _ _ _
  obtain ⟨p, q, hA, hV, rfl, hfz, hnd⟩ := id hW
  rw [hvars] at hV
  obtain ⟨rfl, rfl⟩ := trodVars_nil hV
  let g0 : G := ⟨W.heap.size, [], fun _ => none, []⟩
  have hrel := args_rel_n (g := g0) (enc := enc) (P := C.prog) (W := W) (base := base) (Nat.le_refl _) fn.params.toList args.toList ds p hp hA (fun j t v ht hv => hval j t v (by simpa using ht) (by simpa using hv))
  have hI : Inv g0 ⟨[], []⟩ W := by
    refine ⟨Nat.le_refl _, rfl, ?_, ?_, ?_, rfl, ?_, ?_⟩
    · intro i o h; simp at h
    · intro i j o o' b sh sh' h; simp at h
    · intro b L h; cases h
    · intro t e h; simp [g0] at h
    · intro t u e e' b o o' h; simp [g0] at h
  refine ((law _ hrel.2).2 g0 W args hI hrel.1).mono ?_
  rintro e W' ⟨x, g', v, σ', he, hE, hI', hv, rfl⟩
  have hx : x = .bool true := relV_bool hv
  subst hx
  subst he
  have bel : Below W.heap.size W W' := ⟨hE.os, hE.tape, hE.output, hE.size, fun k hk => hE.old k hk⟩
  have hlen := trodAll_len _ _ _ _ hA
  refine ⟨_, rfl, ds, [], p ++ [], [], p, [], hW, ?_, ?_, ?_, bel.frame _, fun h => by cases h⟩
  · rw [List.append_nil, hs ds hlen, hres]
    exact trodAll_mk1 (shut_bool hb _)
  · rw [List.append_nil, hs ds hlen]
    exact args_stay hl bel _ _ _ _ hr hA
  · rw [List.append_nil, hs ds hlen, hvars]
    rfl


end Go.Aff

