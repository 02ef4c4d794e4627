import Derived.Calls
import Derived.Laws.World
import Derived.Laws.Sem
import Derived.Laws.Small
import Derived.Laws.StructEq
import Derived.RangeFuncSeq
import Derived.Laws.CopyRow

set_option linter.unusedSimpArgs false
set_option linter.unusedVariables false

namespace Go.Aff.L31
structure Nd where
  num : Int
  dir : Bool
  ch : List Int
section
variable (G : List Nd)
def fnd (n : Int) : Option Nd := G.find? fun x => decide (x.num = n)
def kids (n : Int) : List Int := match fnd G n with
  | some x => x.ch
  | none => []
def isD (n : Int) : Bool := match fnd G n with
  | some x => x.dir
  | none => false
def U : Nat → Int → List Int
  | 0, _ => []
  | r + 1, a => (kids G a).flatMap fun c => c :: U r c
def Deep : Nat → Int → Prop
  | 0, a => kids G a = []
  | r + 1, a => ∀ c ∈ kids G a, Deep r c
def Cond (r : Nat) (a : Int) (l : Int → Nat) : Prop := Deep G r a ∧ ∀ c ∈ U G r a, c ≠ 1 ∧ (fnd G c).isSome ∧ (isD G c = true → l c + (U G r a).count c ≤ 1)
end
section
variable {G : List Nd}
end
section
variable (G : List Nd)
end
section
variable {G : List Nd}
end
section
variable (G : List Nd)
def V (r : Nat) (D : List Int) : List Int := D.flatMap fun c => c :: U G r c
def Part (r : Nat) (D : List Int) (l : Int → Nat) : Prop := (∀ c ∈ D, Deep G r c) ∧ ∀ x ∈ V G r D, x ≠ 1 ∧ (fnd G x).isSome ∧ (isD G x = true → l x + (V G r D).count x ≤ 1)
end
section
variable {G : List Nd} {r : Nat} {D R : List Int} {l : Int → Nat} {a c : Int}
theorem cond_part : Cond G (r + 1) a l ↔ Part G r (kids G a) l := Iff.rfl
theorem cond_zero : Cond G 0 a l ↔ kids G a = [] := by
  constructor
  · exact fun h => h.1
  · exact fun h => ⟨h, fun c hc => by simp [U] at hc⟩
theorem v_app : V G r (D ++ R) = V G r D ++ V G r R := by simp [V]
theorem v_one : V G r [c] = c :: U G r c := by simp [V]
theorem v_perm (h : D.Perm R) : (V G r D).Perm (V G r R) := h.flatMap_right _
theorem part_perm (h : D.Perm R) : Part G r D l ↔ Part G r R l := by
  have hv := v_perm (G := G) (r := r) h
  unfold Part
  constructor
  · rintro ⟨h1, h2⟩
    exact ⟨fun c hc => h1 c (h.mem_iff.2 hc), fun x hx => by rw [← hv.count_eq]; exact h2 x (hv.mem_iff.2 hx)⟩
  · rintro ⟨h1, h2⟩
    exact ⟨fun c hc => h1 c (h.mem_iff.1 hc), fun x hx => by rw [hv.count_eq]; exact h2 x (hv.mem_iff.1 hx)⟩
theorem part_nil : Part G r [] l := ⟨by simp, by simp [V]⟩
theorem part_left (h : Part G r (D ++ R) l) : Part G r D l := by
  refine ⟨fun c hc => h.1 c (List.mem_append_left _ hc), fun x hx => ?_⟩
  obtain ⟨a, b, c⟩ := h.2 x (by rw [v_app]; exact List.mem_append_left _ hx)
  refine ⟨a, b, fun hd => ?_⟩
  have := c hd
  rw [v_app, List.count_append] at this
  omega
theorem part_head (h : Part G r (D ++ [c]) l) : c ≠ 1 ∧ (fnd G c).isSome ∧ (isD G c = true → l c + (V G r D).count c + 1 ≤ 1) ∧ Deep G r c := by
  obtain ⟨p, q, s⟩ := h.2 c (by rw [v_app, v_one]; simp)
  refine ⟨p, q, fun hd => ?_, h.1 c (by simp)⟩
  have := s hd
  rw [v_app, v_one, List.count_append, List.count_cons] at this
  simp at this
  omega
def more (l : Int → Nat) (xs : List Int) : Int → Nat := fun n => l n + xs.count n
theorem more_nil : more l [] = l := by funext n; simp [more]
theorem more_app {xs ys : List Int} : more (more l xs) ys = more l (xs ++ ys) := by funext n; simp [more]; omega
theorem more_perm {xs ys : List Int} (h : xs.Perm ys) : more l xs = more l ys := by funext n; simp [more, h.count_eq]
theorem part_dir (hp : Part G r D l) (h1 : c ≠ 1) (hs : (fnd G c).isSome) (hl : more l (V G r D ++ [c]) c ≤ 1) : Part G r (D ++ [c]) l ↔ Cond G r c (more l (V G r D ++ [c])) := by
  constructor
  · rintro ⟨p, q⟩
    refine ⟨p c (by simp), fun x hx => ?_⟩
    obtain ⟨u, v, w⟩ := q x (by rw [v_app, v_one]; simp [hx])
    refine ⟨u, v, fun hd => ?_⟩
    have := w hd
    rw [v_app, v_one, List.count_append, List.count_cons] at this
    simp only [more, List.count_append, List.count_singleton]
    omega
  · rintro ⟨p, q⟩
    refine ⟨fun x hx => ?_, fun x hx => ?_⟩
    · rcases List.mem_append.1 hx with hx | hx
      · exact hp.1 x hx
      · simp at hx; subst hx; exact p
    · have hcnt : (V G r (D ++ [c])).count x = (V G r D).count x + ((if (c == x) = true then 1 else 0) + (U G r c).count x) := by
        rw [v_app, v_one, List.count_append, List.count_cons]; omega
      by_cases hU : x ∈ U G r c
      · obtain ⟨u, v, w⟩ := q x hU
        refine ⟨u, v, fun hd => ?_⟩
        have := w hd
        simp only [more, List.count_append, List.count_singleton] at this
        rw [hcnt]; omega
      · have hz : (U G r c).count x = 0 := List.count_eq_zero.2 hU
        by_cases e : c = x
        · subst e
          refine ⟨h1, hs, fun hd => ?_⟩
          simp only [more, List.count_append, List.count_singleton] at hl
          rw [hcnt]; omega
        · have hx' : x ∈ V G r D := by
            rw [v_app, v_one] at hx
            rcases List.mem_append.1 hx with hx | hx
            · exact hx
            · rcases List.mem_cons.1 hx with hx | hx
              · exact absurd hx.symm e
              · exact absurd hx hU
          obtain ⟨u, v, w⟩ := hp.2 x hx'
          refine ⟨u, v, fun hd => ?_⟩
          have := w hd
          have e' : (c == x) = false := by simp [e]
          rw [hcnt, e']; simp; omega
theorem u_file (hk : kids G c = []) : ∀ r, U G r c = []
  | 0 => rfl
  | r + 1 => by rw [U, hk]; rfl
theorem deep_file (hk : kids G c = []) : ∀ r, Deep G r c
  | 0 => hk
  | r + 1 => by rw [Deep, hk]; simp
theorem part_file (hp : Part G r D l) (h1 : c ≠ 1) (hs : (fnd G c).isSome) (hd : isD G c = false) (hk : kids G c = []) : Part G r (D ++ [c]) l := by
  refine ⟨fun x hx => ?_, fun x hx => ?_⟩
  · rcases List.mem_append.1 hx with hx | hx
    · exact hp.1 x hx
    · simp at hx; subst hx; exact deep_file hk r
  · rw [v_app, v_one, u_file hk] at hx ⊢
    rcases List.mem_append.1 hx with hx | hx
    · obtain ⟨u, v, w⟩ := hp.2 x hx
      refine ⟨u, v, fun hx' => ?_⟩
      have := w hx'
      have e : c ≠ x := fun e => by subst e; rw [hd] at hx'; cases hx'
      rw [List.count_append, List.count_cons]
      have e' : (c == x) = false := by simp [e]
      rw [e']; simp; omega
    · simp at hx; subst hx
      exact ⟨h1, hs, fun e => by rw [hd] at e; cases e⟩
end
structure Seen {β : Type} (E D : List (Nat × β)) : Prop where
  sub : ∀ e ∈ D, e ∈ E
  nd : (D.map (·.1)).Nodup
section
variable {β : Type} {E D : List (Nat × β)}
theorem Seen.nil : Seen E ([] : List (Nat × β)) := ⟨by simp, by simp⟩
theorem mark_inj (hE : (E.map (·.1)).Nodup) {a b : Nat × β} (ha : a ∈ E) (hb : b ∈ E) (h : a.1 = b.1) : a = b := by
  obtain ⟨i, hi⟩ := List.mem_iff_getElem?.1 ha
  obtain ⟨j, hj⟩ := List.mem_iff_getElem?.1 hb
  have h1 : (E.map (·.1))[i]? = some a.1 := by rw [List.getElem?_map, hi]; rfl
  have h2 : (E.map (·.1))[j]? = some a.1 := by rw [List.getElem?_map, hj, h]; rfl
  have hil := (List.getElem?_eq_some_iff.1 h1).1
  have e : i = j := (List.getElem?_inj hil hE).1 (h1.trans h2.symm)
  subst e
  rw [hi] at hj; cases hj; rfl
theorem Seen.add (h : Seen E D) {e : Nat × β} (he : e ∈ E) (hn : ¬ e.1 ∈ D.map (·.1)) : Seen E (D ++ [e]) := by
  refine ⟨fun x hx => ?_, ?_⟩
  · rcases List.mem_append.1 hx with hx | hx
    · exact h.sub x hx
    · simp at hx; subst hx; exact he
  · rw [List.map_append, List.nodup_append]
    refine ⟨h.nd, by simp, fun a ha b hb => ?_⟩
    simp at hb; subst hb
    exact fun e' => hn (e' ▸ ha)
theorem Seen.rest : ∀ {D : List (Nat × β)} {E : List (Nat × β)}, (E.map (·.1)).Nodup → Seen E D → ∃ R, (D ++ R).Perm E
  | [], E, _, _ => ⟨E, List.Perm.refl _⟩
  | d :: D, E, hE, h => by
    have hd := h.sub d (List.mem_cons_self ..)
    obtain ⟨A, B, rfl⟩ := List.append_of_mem hd
    have hp : (A ++ d :: B).Perm (d :: (A ++ B)) := List.perm_middle
    have hE' : ((A ++ B).map (·.1)).Nodup := by
      have h1 := (hp.map (·.1)).nodup_iff.1 hE
      rw [List.map_cons, List.nodup_cons] at h1
      exact h1.2
    have hn := h.nd
    rw [List.map_cons, List.nodup_cons] at hn
    have hs : Seen (A ++ B) D := by
      refine ⟨fun x hx => ?_, hn.2⟩
      have := h.sub x (List.mem_cons_of_mem _ hx)
      have hxd : x ≠ d := fun e => hn.1 (e ▸ List.mem_map.2 ⟨x, hx, rfl⟩)
      rcases List.mem_append.1 this with q | q
      · exact List.mem_append_left _ q
      · rcases List.mem_cons.1 q with q | q
        · exact absurd q hxd
        · exact List.mem_append_right _ q
    obtain ⟨R, hR⟩ := Seen.rest hE' hs
    exact ⟨R, (List.Perm.cons d hR).trans hp.symm⟩
theorem Seen.len (hE : (E.map (·.1)).Nodup) (h : Seen E D) : D.length ≤ E.length := by
  obtain ⟨R, hR⟩ := h.rest hE
  have := hR.length_eq; rw [List.length_append] at this; omega
theorem Seen.all (hE : (E.map (·.1)).Nodup) (h : Seen E D) (ha : ∀ e ∈ E, e.1 ∈ D.map (·.1)) : D.Perm E := by
  obtain ⟨R, hR⟩ := h.rest hE
  cases R with
  | nil => rwa [List.append_nil] at hR
  | cons r R =>
    exfalso
    have hr : r ∈ E := hR.mem_iff.1 (by simp)
    obtain ⟨d, hd, e⟩ := List.mem_map.1 (ha r hr)
    have hdr := mark_inj hE (h.sub d hd) hr e
    subst hdr
    have hn := (hR.map (·.1)).nodup_iff.2 hE
    rw [List.map_append, List.nodup_append] at hn
    exact hn.2.2 d.1 (List.mem_map.2 ⟨d, hd, rfl⟩) d.1 (by simp) rfl
end
section
variable {G : List Nd}
theorem v_len {r : Nat} (h : ∀ a, (U G r a).length + 1 ≤ 81 ^ r) : ∀ D : List Int, (V G r D).length ≤ D.length * 81 ^ r
  | [] => by simp [V]
  | c :: D => by
    have ih := v_len h D
    have := h c
    have e : V G r (c :: D) = (c :: U G r c) ++ V G r D := by simp [V]
    rw [e, List.length_append, List.length_cons, List.length_cons, Nat.add_mul]
    omega
theorem u_len (hk : ∀ n, (kids G n).length ≤ 80) : ∀ r a, (U G r a).length + 1 ≤ 81 ^ r
  | 0, a => by simp [U]
  | r + 1, a => by
    have h := v_len (u_len hk r) (kids G a)
    have e : U G (r + 1) a = V G r (kids G a) := rfl
    have h1 : (kids G a).length * 81 ^ r ≤ 80 * 81 ^ r := Nat.mul_le_mul_right _ (hk a)
    have h2 : 0 < 81 ^ r := Nat.pow_pos (by decide)
    rw [e, Nat.pow_succ]
    omega
theorem more_le {l : Int → Nat} {xs : List Int} (x : Int) : more l xs x ≤ l x + xs.length := by
  have := List.count_le_length (a := x) (l := xs)
  simp only [more]; omega
end
section
def Plain (G : List Nd) : Prop := (G.map (·.num)).Nodup ∧ ∀ x ∈ G, x.dir = false → x.ch = []
end
end Go.Aff.L31

namespace Go.Aff

structure Dig where
  l : List UInt8
  h : l.length = 32

inductive Tk where
  | none | full | lit | own (t : Nat)

inductive AV where
  | undef
  | bool (b : Bool)
  | int (k : IntKind) (n : Int)
  | str (s : List UInt8)
  | ptr (p : Option (Nat × List Nat))
  | slice (tk : Tk) (xs : List AV)
  | eptr (v : AV)
  | mp (r : Option Nat)
  | arr (i : Nat) (p : List Nat) (n : Nat)
  | fn (f : Fn) (first captured : List AV)
  | nilFn
  | lit (x : Value)
  | agg (ps : List AV)
  | dig (d : Dig)
  | tuple (vs : List AV)
  | iface (t : TypeId) (v : AV)
  | nilIface

instance : Inhabited AV := ⟨.undef⟩

mutual
def AV.size : AV → Nat
  | .agg ps => AV.sizes ps
  | .dig _ => 32
  | _ => 1
def AV.sizes : List AV → Nat
  | [] => 0
  | p :: ps => p.size + AV.sizes ps
end

def AV.isAgg : AV → Bool
  | .agg _ | .dig _ => true
  | _ => false

def vAgg : Value → Bool
  | .agg _ => true
  | _ => false

inductive Shape where
  | leaf | dig | node (l : List Shape)

mutual
def AV.shape : AV → Shape
  | .agg ps => .node (AV.shapes ps)
  | .dig _ => .dig
  | _ => .leaf
def AV.shapes : List AV → List Shape
  | [] => []
  | p :: ps => p.shape :: AV.shapes ps
end

mutual
def Shape.size : Shape → Nat
  | .node l => Shape.sizes l
  | .dig => 32
  | .leaf => 1
def Shape.sizes : List Shape → Nat
  | [] => 0
  | p :: ps => p.size + Shape.sizes ps
end

mutual
theorem AV.size_shape : ∀ v : AV, v.shape.size = v.size
  | .agg ps => by simp only [AV.shape, Shape.size, AV.size]; exact AV.sizes_shapes ps
  | .dig _ => rfl
  | .undef | .bool _ | .int _ _ | .str _ | .ptr _ | .slice _ _ | .eptr _ | .mp _ | .arr _ _ _ | .fn _ _ _ | .nilFn | .lit _ | .tuple _ | .iface _ _ | .nilIface => rfl
theorem AV.sizes_shapes : ∀ ps : List AV, Shape.sizes (AV.shapes ps) = AV.sizes ps
  | [] => rfl
  | p :: ps => by simp only [AV.shapes, Shape.sizes, AV.sizes, AV.size_shape p, AV.sizes_shapes ps]
end

theorem AV.shapes_eq_map (ps : List AV) : AV.shapes ps = ps.map AV.shape := by
  induction ps with
  | nil => rfl
  | cons p ps ih => simp [AV.shapes, ih]

def Shape.off : Shape → List Nat → Option Nat
  | _, [] => some 0
  | .node l, i :: p => (l[i]?).bind fun s => (s.off p).map (Shape.sizes (l.take i) + ·)
  | .dig, [i] => if i < 32 then some i else none
  | _, _ :: _ => none

def AV.at : AV → List Nat → Option AV
  | v, [] => some v
  | .agg ps, i :: p => (ps[i]?).bind fun v => v.at p
  | .dig d, [i] => (d.l[i]?).map fun b => .int .u8 b.toNat
  | _, _ :: _ => none

def Dig.set (d : Dig) (i : Nat) (n : Int) : Dig := ⟨d.l.set i (UInt8.ofNat n.toNat), by simp [d.h]⟩

def AV.setAt : AV → List Nat → AV → AV
  | _, [], x => x
  | .agg ps, i :: p, x => match ps[i]? with
    | some v => .agg (ps.set i (v.setAt p x))
    | none => .agg ps
  | .dig d, [i], .int .u8 n => .dig (d.set i n)
  | v, _ :: _, _ => v

structure TokE where
  a : Option (Nat × Nat)
  len : Nat
  cap : Nat
  es : Nat

structure G where
  base : Nat
  objs : List (Nat × Shape)
  lim : Nat → Option Nat
  toks : List TokE

def G.below (g : G) (b m : Nat) : Prop := b < g.base ∨ ∃ L, g.lim b = some L ∧ m ≤ L

def rd (w : World) (b o : Nat) (cs : List Value) : Prop :=
  ∃ c e fr, w.heap[b]? = some (.cells c e fr) ∧ ∀ j, j < cs.length → c[o + j]? = cs[j]?

def mkAddr (x : Nat × Nat) : Addr := ⟨x.1, x.2, none⟩
def Ad (ad : Option Addr) (a : Option (Nat × Nat)) (c : Nat) : Prop := ad = a.map mkAddr ∨ (a = none ∧ c = 0)
theorem Ad.some {ad : Option Addr} {x : Nat × Nat} {c : Nat} (h : Ad ad (some x) c) : ad = some (mkAddr x) := by
  rcases h with h | ⟨h, _⟩
  · exact h
  · cases h

def maxL : Nat := 9223372036854775807

def tkOk (g : G) (a : Option (Nat × Nat)) (n c es : Nat) : Tk → Prop
  | .none => True
  | .full => c = n
  | .lit => c = n ∧ ∃ b o L, a = some (b, o) ∧ g.base ≤ b ∧ g.lim b = some L
  | .own t => ∃ e, g.toks[t]? = some e ∧ n ≤ e.len ∧ (n = e.len → e.a = a ∧ e.cap = c) ∧ (n = 0 ∨ es = e.es)

mutual
def relC (g : G) (w : World) : AV → List Value → Prop
  | .undef, cs => ∃ c, cs = [c] ∧ c.oneCell' = true
  | .bool b, cs => cs = [.bool b]
  | .int k n, cs => cs = [.int k n]
  | .str s, cs => cs = [.string ⟨s.toArray⟩] ∧ s.length ≤ maxL
  | .ptr none, cs => cs = [.pointer none]
  | .ptr (some (i, p)), cs => ∃ b sh o, g.objs[i]? = some (b, sh) ∧ sh.off p = some o ∧ cs = [.pointer (some ⟨b, o, none⟩)]
  | .slice tk xs, cs => ∃ ad a c es css, cs = [.slice ad xs.length c] ∧ Ad ad a c ∧ relEs g w es xs css ∧ xs.length ≤ c ∧ c ≤ maxL ∧ (a = none → c = 0) ∧
      (∀ b o, a = some (b, o) → css = [] ∨ (rd w b o css ∧ g.below b (o + css.length))) ∧ tkOk g a xs.length c es tk
  | .eptr v, cs => ∃ b o cv, cs = [.pointer (some ⟨b, o, none⟩)] ∧ relC g w v cv ∧ rd w b o cv ∧ g.below b (o + cv.length)
  | .arr i p n, cs => ∃ b sh o c, g.objs[i]? = some (b, sh) ∧ sh.off p = some o ∧ cs = [.slice (some ⟨b, o, none⟩) n c] ∧ n ≤ c ∧ c ≤ maxL
  | .mp none, cs => cs = [.map none]
  | .mp (some i), cs => ∃ b sh, g.objs[i]? = some (b, sh) ∧ cs = [.map (some b)]
  | .fn f first cap, cs => ∃ a b, cs = [.func f a b] ∧ relVs g w first a.toList ∧ relVs g w cap b.toList
  | .nilFn, cs => cs = [.nilFunc]
  | .lit x, cs => cs = [x] ∧ x.oneCell' = true
  | .agg ps, cs => relPs g w ps cs
  | .dig d, cs => cs = d.l.map fun b => Value.int .u8 b.toNat
  | .tuple _, _ => False
  | .iface t v, cs => ∃ x, cs = [.iface t x] ∧ relC g w v x.cells.toList ∧ v.isAgg = vAgg x
  | .nilIface, cs => cs = [.nilIface]
def relPs (g : G) (w : World) : List AV → List Value → Prop
  | [], cs => cs = []
  | p :: ps, cs => ∃ c1 c2, cs = c1 ++ c2 ∧ relC g w p c1 ∧ relPs g w ps c2
def relEs (g : G) (w : World) (es : Nat) : List AV → List Value → Prop
  | [], cs => cs = []
  | p :: ps, cs => ∃ c1 c2, cs = c1 ++ c2 ∧ c1.length = es ∧ relC g w p c1 ∧ relEs g w es ps c2
def relVs (g : G) (w : World) : List AV → List Value → Prop
  | [], l => l = []
  | v :: vs, l => ∃ x r, l = x :: r ∧ relC g w v x.cells.toList ∧ v.isAgg = vAgg x ∧ relVs g w vs r
end

def relV (g : G) (w : World) (v : AV) (x : Value) : Prop :=
  v = .undef ∨ (∃ vs a, v = .tuple vs ∧ x = .tuple a ∧ relVs g w vs a.toList) ∨ (relC g w v x.cells.toList ∧ v.isAgg = vAgg x)

mutual
theorem relC_size {g : G} {w : World} : ∀ {v : AV} {cs : List Value}, relC g w v cs → cs.length = v.size
  | .undef, cs, h => by simp only [relC] at h; obtain ⟨c, rfl, _⟩ := h; rfl
  | .bool _, cs, h | .int _ _, cs, h | .nilFn, cs, h | .nilIface, cs, h => by simp only [relC] at h; subst h; rfl
  | .str _, cs, h => by simp only [relC] at h; obtain ⟨rfl, _⟩ := h; rfl
  | .lit _, cs, h => by simp only [relC] at h; obtain ⟨rfl, _⟩ := h; rfl
  | .ptr none, cs, h => by simp only [relC] at h; subst h; rfl
  | .ptr (some (i, p)), cs, h => by simp only [relC] at h; obtain ⟨_, _, _, _, _, rfl⟩ := h; rfl
  | .slice _ _, cs, h => by simp only [relC] at h; obtain ⟨_, _, _, _, _, rfl, _⟩ := h; rfl
  | .eptr _, cs, h => by simp only [relC] at h; obtain ⟨_, _, _, rfl, _⟩ := h; rfl
  | .mp none, cs, h => by simp only [relC] at h; subst h; rfl
  | .arr _ _ _, cs, h => by simp only [relC] at h; obtain ⟨_, _, _, _, _, _, rfl, _⟩ := h; rfl
  | .mp (some _), cs, h => by simp only [relC] at h; obtain ⟨_, _, _, rfl⟩ := h; rfl
  | .fn _ _ _, cs, h => by simp only [relC] at h; obtain ⟨_, _, rfl, _⟩ := h; rfl
  | .agg ps, cs, h => by simp only [relC] at h; simp only [AV.size]; exact relPs_size h
  | .dig d, cs, h => by simp only [relC] at h; subst h; simp [AV.size, d.h]
  | .tuple _, cs, h => by simp only [relC] at h
  | .iface _ _, cs, h => by simp only [relC] at h; obtain ⟨_, rfl, _⟩ := h; rfl
theorem relPs_size {g : G} {w : World} : ∀ {ps : List AV} {cs : List Value}, relPs g w ps cs → cs.length = AV.sizes ps
  | [], cs, h => by simp only [relPs] at h; subst h; rfl
  | p :: ps, cs, h => by
    simp only [relPs] at h; obtain ⟨c1, c2, rfl, h1, h2⟩ := h
    simp only [List.length_append, AV.sizes, relC_size h1, relPs_size h2]
end

theorem relEs_size {g : G} {w : World} {es : Nat} : ∀ {ps : List AV} {cs : List Value}, relEs g w es ps cs → cs.length = ps.length * es
  | [], cs, h => by simp only [relEs] at h; subst h; simp
  | p :: ps, cs, h => by
    simp only [relEs] at h; obtain ⟨c1, c2, rfl, h1, _, h2⟩ := h
    simp only [List.length_append, List.length_cons, relEs_size h2, h1, Nat.add_mul, Nat.one_mul]; omega

theorem relVs_length {g : G} {w : World} : ∀ {vs : List AV} {l : List Value}, relVs g w vs l → l.length = vs.length
  | [], l, h => by simp only [relVs] at h; subst h; rfl
  | v :: vs, l, h => by simp only [relVs] at h; obtain ⟨x, r, rfl, _, _, h⟩ := h; simp [relVs_length h]

structure Ev (g : G) (w : World) (g' : G) (w' : World) : Prop where
  os : w'.os = w.os
  tape : w'.tape = w.tape
  output : w'.output = w.output
  size : w.heap.size ≤ w'.heap.size
  base : g'.base = g.base
  old : ∀ b, b < g.base → w'.heap[b]? = w.heap[b]?
  objs : ∀ (i : Nat) x, g.objs[i]? = some x → g'.objs[i]? = some x
  lim : ∀ b L, g.lim b = some L → (∃ L', g'.lim b = some L' ∧ L ≤ L') ∧
    ∀ c e fr, w.heap[b]? = some (.cells c e fr) → ∃ c' e' fr', w'.heap[b]? = some (.cells c' e' fr') ∧ ∀ j, j < L → c'[j]? = c[j]?
  toks : ∀ (t : Nat) e, g.toks[t]? = some e → ∃ e', g'.toks[t]? = some e' ∧ e'.es = e.es ∧ e.len ≤ e'.len ∧ (e'.len = e.len → e' = e) ∧ (e'.a = e.a ∨ ∀ b o, e'.a = some (b, o) → w.heap.size ≤ b ∧ o = 0)

theorem Ev.refl (g : G) (w : World) : Ev g w g w :=
  ⟨rfl, rfl, rfl, Nat.le_refl _, rfl, fun _ _ => rfl, fun _ _ h => h, fun b L h => ⟨⟨L, h, Nat.le_refl _⟩, fun c e fr hc => ⟨c, e, fr, hc, fun _ _ => rfl⟩⟩,
    fun t e h => ⟨e, h, rfl, Nat.le_refl _, fun _ => rfl, .inl rfl⟩⟩

theorem Ev.trans {g g' g'' : G} {w w' w'' : World} (h : Ev g w g' w') (k : Ev g' w' g'' w'') : Ev g w g'' w'' where
  os := k.os.trans h.os
  tape := k.tape.trans h.tape
  output := k.output.trans h.output
  size := Nat.le_trans h.size k.size
  base := k.base.trans h.base
  old b hb := (k.old b (by rw [h.base]; exact hb)).trans (h.old b hb)
  objs i x hx := k.objs i x (h.objs i x hx)
  lim b L hL := by
    obtain ⟨⟨L', hL', hle⟩, hc⟩ := h.lim b L hL
    obtain ⟨⟨L'', hL'', hle'⟩, hc'⟩ := k.lim b L' hL'
    refine ⟨⟨L'', hL'', Nat.le_trans hle hle'⟩, fun c e fr hb => ?_⟩
    obtain ⟨c', e', fr', hb', hj⟩ := hc c e fr hb
    obtain ⟨c'', e'', fr'', hb'', hj'⟩ := hc' c' e' fr' hb'
    exact ⟨c'', e'', fr'', hb'', fun j hjl => (hj' j (Nat.lt_of_lt_of_le hjl hle)).trans (hj j hjl)⟩
  toks t e ht := by
    obtain ⟨e', ht', hes, hle, heq, hnew⟩ := h.toks t e ht
    obtain ⟨e'', ht'', hes', hle', heq', hnew'⟩ := k.toks t e' ht'
    refine ⟨e'', ht'', hes'.trans hes, Nat.le_trans hle hle', fun hl => ?_, ?_⟩
    rotate_left
    · rcases hnew' with h1 | h1
      · rw [h1]; exact hnew
      · exact .inr fun b o hb => ⟨Nat.le_trans h.size (h1 b o hb).1, (h1 b o hb).2⟩
    have h1 : e'.len = e.len := by omega
    rw [heq' (by omega), heq h1]

theorem rd_mono {g g' : G} {w w' : World} (h : Ev g w g' w') {b o : Nat} {cs : List Value} (hr : rd w b o cs) (hb : g.below b (o + cs.length)) :
    rd w' b o cs ∧ g'.below b (o + cs.length) := by
  obtain ⟨c, e, fr, hc, hj⟩ := hr
  rcases hb with hb | ⟨L, hL, hle⟩
  · exact ⟨⟨c, e, fr, (h.old b hb).trans hc, hj⟩, .inl (by rw [h.base]; exact hb)⟩
  · obtain ⟨⟨L', hL', hle'⟩, hk⟩ := h.lim b L hL
    obtain ⟨c', e', fr', hc', hj'⟩ := hk c e fr hc
    exact ⟨⟨c', e', fr', hc', fun j hjl => (hj' _ (by omega)).trans (hj j hjl)⟩, .inr ⟨L', hL', by omega⟩⟩

theorem tkOk_mono {g g' : G} {w w' : World} (h : Ev g w g' w') {a : Option (Nat × Nat)} {n c es : Nat} {tk : Tk} (hk : tkOk g a n c es tk) : tkOk g' a n c es tk := by
  cases tk with
  | none => trivial
  | full => exact hk
  | lit =>
    obtain ⟨h1, b, o, L, h2, h3, h4⟩ := hk
    obtain ⟨⟨L', hL', _⟩, _⟩ := h.lim b L h4
    exact ⟨h1, b, o, L', h2, by rw [h.base]; exact h3, hL'⟩
  | own t =>
    obtain ⟨e, he, hn, heq, hes⟩ := hk
    obtain ⟨e', he', hes', hle, hsame, _⟩ := h.toks t e he
    refine ⟨e', he', by omega, fun hl => ?_, hes.imp id (fun x => x.trans hes'.symm)⟩
    have h1 : e'.len = e.len := by omega
    rw [hsame h1]; exact heq (by omega)

mutual
theorem relC_mono {g g' : G} {w w' : World} (h : Ev g w g' w') : ∀ {v : AV} {cs : List Value}, relC g w v cs → relC g' w' v cs
  | .undef, cs, hr | .bool _, cs, hr | .int _ _, cs, hr | .nilFn, cs, hr | .lit _, cs, hr | .nilIface, cs, hr | .str _, cs, hr | .ptr none, cs, hr | .mp none, cs, hr | .dig _, cs, hr => by
    simp only [relC] at hr ⊢; exact hr
  | .ptr (some (i, p)), cs, hr => by
    simp only [relC] at hr ⊢; obtain ⟨b, sh, o, h1, h2, h3⟩ := hr; exact ⟨b, sh, o, h.objs _ _ h1, h2, h3⟩
  | .slice tk xs, cs, hr => by
    simp only [relC] at hr ⊢
    obtain ⟨ad, a, c, es, css, h1, had, h2, h3, h4, h5, h6, h7⟩ := hr
    exact ⟨ad, a, c, es, css, h1, had, relEs_mono h h2, h3, h4, h5, fun b o hab => (h6 b o hab).imp id (fun ⟨x, y⟩ => rd_mono h x y), tkOk_mono h h7⟩
  | .eptr v, cs, hr => by
    simp only [relC] at hr ⊢
    obtain ⟨b, o, cv, h1, h2, h3, h4⟩ := hr
    exact ⟨b, o, cv, h1, relC_mono h h2, rd_mono h h3 h4⟩
  | .mp (some i), cs, hr => by simp only [relC] at hr ⊢; obtain ⟨b, sh, h1, h2⟩ := hr; exact ⟨b, sh, h.objs _ _ h1, h2⟩
  | .arr i p n, cs, hr => by simp only [relC] at hr ⊢; obtain ⟨b, sh, o, c, h1, h2⟩ := hr; exact ⟨b, sh, o, c, h.objs _ _ h1, h2⟩
  | .fn f first cap, cs, hr => by
    simp only [relC] at hr ⊢; obtain ⟨a, b, h1, h2, h3⟩ := hr; exact ⟨a, b, h1, relVs_mono h h2, relVs_mono h h3⟩
  | .agg ps, cs, hr => by simp only [relC] at hr ⊢; exact relPs_mono h hr
  | .tuple vs, cs, hr => by simp only [relC] at hr
  | .iface t v, cs, hr => by simp only [relC] at hr ⊢; obtain ⟨x, h1, h2, h3⟩ := hr; exact ⟨x, h1, relC_mono h h2, h3⟩
theorem relPs_mono {g g' : G} {w w' : World} (h : Ev g w g' w') : ∀ {ps : List AV} {cs : List Value}, relPs g w ps cs → relPs g' w' ps cs
  | [], cs, hr => by simp only [relPs] at hr ⊢; exact hr
  | p :: ps, cs, hr => by simp only [relPs] at hr ⊢; obtain ⟨c1, c2, h1, h2, h3⟩ := hr; exact ⟨c1, c2, h1, relC_mono h h2, relPs_mono h h3⟩
theorem relEs_mono {g g' : G} {w w' : World} (h : Ev g w g' w') {es : Nat} : ∀ {ps : List AV} {cs : List Value}, relEs g w es ps cs → relEs g' w' es ps cs
  | [], cs, hr => by simp only [relEs] at hr ⊢; exact hr
  | p :: ps, cs, hr => by simp only [relEs] at hr ⊢; obtain ⟨c1, c2, h1, hl, h2, h3⟩ := hr; exact ⟨c1, c2, h1, hl, relC_mono h h2, relEs_mono h h3⟩
theorem relVs_mono {g g' : G} {w w' : World} (h : Ev g w g' w') : ∀ {vs : List AV} {l : List Value}, relVs g w vs l → relVs g' w' vs l
  | [], l, hr => by simp only [relVs] at hr ⊢; exact hr
  | v :: vs, l, hr => by simp only [relVs] at hr ⊢; obtain ⟨x, r, h1, h2, h3, h4⟩ := hr; exact ⟨x, r, h1, relC_mono h h2, h3, relVs_mono h h4⟩
end

theorem relV_mono {g g' : G} {w w' : World} (h : Ev g w g' w') {v : AV} {x : Value} (hr : relV g w v x) : relV g' w' v x :=
  hr.imp id (fun hr => hr.imp (fun ⟨vs, a, h1, h2, h3⟩ => ⟨vs, a, h1, h2, relVs_mono h h3⟩) (fun ⟨a, b⟩ => ⟨relC_mono h a, b⟩))


inductive AObj where
  | cells (v : AV)
  | map (es : List (Nat × AV × AV)) (clock : Nat)
  | gone
  | pin (l : Nat) (o : Obj) (vs : List AV) (xs : List Value)

def AObj.live : AObj → Bool
  | .gone => false
  | _ => true

structure AST where
  objs : List AObj
  toks : List (Nat × Nat)

def AST.push (σ : AST) (o : AObj) : AST := { σ with objs := σ.objs ++ [o] }
def AST.set (σ : AST) (i : Nat) (o : AObj) : AST := { σ with objs := σ.objs.set i o }
def AST.tok (σ : AST) (n es : Nat) : AST := { σ with toks := σ.toks ++ [(n, es)] }
def AST.setTok (σ : AST) (t n es : Nat) : AST := { σ with toks := σ.toks.set t (n, es) }

def objIn (g : G) (w : World) (b : Nat) (sh : Shape) : AObj → Prop
  | .cells v => ∃ c e fr, w.heap[b]? = some (.cells c e fr) ∧ (fr.1 = fr.2 ∨ c.size ≤ fr.1) ∧ relC g w v c.toList ∧ v.shape = sh
  | .map es ck => ∃ me : Array MapEntry, w.heap[b]? = some (.map me ck) ∧ es.length = me.size ∧
      (∀ (i : Nat) e m, es[i]? = some e → me[i]? = some m → m.born = e.1 ∧ (relC g w e.2.1 m.key.cells.toList ∧ e.2.1.isAgg = vAgg m.key) ∧ (relC g w e.2.2 m.val.cells.toList ∧ e.2.2.isAgg = vAgg m.val)) ∧
      (∀ e ∈ es, e.1 < ck) ∧ (es.map (·.1)).Nodup
  | .gone => True
  | .pin l o vs xs => b = l ∧ w.heap[b]? = some o ∧ ∀ (i : Nat) v x, vs[i]? = some v → xs[i]? = some x → v = .undef ∨ (relC g w v x.cells.toList ∧ v.isAgg = vAgg x)

structure Inv (g : G) (σ : AST) (w : World) : Prop where
  base : g.base ≤ w.heap.size
  nobj : σ.objs.length = g.objs.length
  obj : ∀ (i : Nat) o, σ.objs[i]? = some o → o.live = true → ∃ b sh, g.objs[i]? = some (b, sh) ∧ g.base ≤ b ∧ g.lim b = none ∧ objIn g w b sh o
  inj : ∀ (i j : Nat) o o' b sh sh', σ.objs[i]? = some o → σ.objs[j]? = some o' → o.live = true → o'.live = true → g.objs[i]? = some (b, sh) → g.objs[j]? = some (b, sh') → i = j
  rows : ∀ b L, g.lim b = some L → g.base ≤ b ∧ ∃ c e fr, w.heap[b]? = some (.cells c e fr) ∧ L ≤ c.size ∧ (fr.1 = fr.2 ∨ c.size ≤ fr.1)
  ntok : σ.toks.length = g.toks.length
  tok : ∀ (t : Nat) e, g.toks[t]? = some e → σ.toks[t]? = some (e.len, e.es) ∧ e.len ≤ e.cap ∧ e.cap ≤ maxL ∧ (e.a = none → e.cap = 0) ∧
    ∀ b o, e.a = some (b, o) → e.len < e.cap → g.lim b = some (o + e.len * e.es) ∧
      ∃ c el fr, w.heap[b]? = some (.cells c el fr) ∧ o + e.cap * e.es ≤ c.size ∧ (fr.1 = fr.2 ∨ c.size ≤ fr.1)
  tinj : ∀ (t u : Nat) e e' b o o', g.toks[t]? = some e → g.toks[u]? = some e' → e.a = some (b, o) → e'.a = some (b, o') → e.len < e.cap → e'.len < e'.cap → t = u

/-! ### Operands -/

def absV : Value → AV
  | .bool b => .bool b
  | .int k n => .int k n
  | .string s => if s.data.size ≤ maxL then .str s.data.toList else .undef
  | .pointer none => .ptr none
  | .slice none 0 0 => .slice .full []
  | .map none => .mp none
  | .nilFunc => .nilFn
  | .nilIface => .nilIface
  | _ => .undef

abbrev Env := Nat → AV

def Env.put (τ : Env) (d : Nat) (v : AV) : Env := fun t => if t = d then v else τ t

def Env.putO (τ : Env) : Option Nat → AV → Env
  | some d, v => τ.put d v
  | none, _ => τ

def ev (τ : Env) : Operand → AV
  | .tmp t => τ t
  | .const v => absV v
  | .global _ => .undef
  | .func f => .fn (.func f) [] []

def relE (g : G) (w : World) (τ : Env) (tmps : Array Value) : Prop := ∀ t, relV g w (τ t) (tmps.getD t Go.undef)

theorem relC_nil (g : G) (w : World) : relC g w (.slice .full []) [.slice none 0 0] := by
  simp only [relC]
  exact ⟨none, none, 0, 0, [], rfl, .inl rfl, by simp [relEs], Nat.le_refl _, by decide, fun _ => rfl, fun b o h => by simp at h, rfl⟩

theorem absV_rel (g : G) (w : World) (v : Value) : relV g w (absV v) v := by
  have mk : ∀ {a : AV} {v : Value}, relC g w a v.cells.toList → a.isAgg = vAgg v → relV g w a v := fun h1 h2 => .inr (.inr ⟨h1, h2⟩)
  unfold absV
  split
  · exact mk (by simp [relC, Value.cells]) rfl
  · exact mk (by simp [relC, Value.cells]) rfl
  · split
    · rename_i s h
      exact mk (by simp only [relC, Value.cells]; exact ⟨trivial, by simpa using h⟩) rfl
    · exact .inl rfl
  · exact mk (by simp [relC, Value.cells]) rfl
  · exact mk (relC_nil g w) rfl
  · exact mk (by simp [relC, Value.cells]) rfl
  · exact mk (by simp [relC, Value.cells]) rfl
  · exact mk (by simp [relC, Value.cells]) rfl
  · exact .inl rfl

theorem ev_rel {g : G} {w : World} {τ : Env} {a : Act} (h : relE g w τ a.tmps) (x : Operand) : relV g w (ev τ x) (a.eval x) := by
  cases x with
  | tmp t => exact h t
  | const v => exact absV_rel g w v
  | global _ => exact .inl rfl
  | func f => refine .inr (.inr ⟨?_, rfl⟩); simp only [ev, Act.eval, relC, Value.cells]; exact ⟨#[], #[], rfl, by simp [relVs], by simp [relVs]⟩

theorem relE_mono {g g' : G} {w w' : World} (h : Ev g w g' w') {τ : Env} {tmps : Array Value} (hr : relE g w τ tmps) : relE g' w' τ tmps := fun t => relV_mono h (hr t)

theorem relE_put {g : G} {w : World} {τ : Env} {a : Act} (h : relE g w τ a.tmps) {d : Option Nat} (hd : ∀ k, d = some k → k < a.tmps.size) {v : AV} {x : Value} (hv : relV g w v x) :
    relE g w (τ.putO d v) (a.put d x).tmps := by
  cases d with
  | none => exact h
  | some k =>
    intro t
    have hk := hd k rfl
    simp only [Env.putO, Env.put, Act.put]
    by_cases e : t = k
    · subst e; simp [Array.getD, hk, hv]
    · have h1 := h t
      simp only [if_neg e]
      have : (a.tmps.setIfInBounds k x).getD t Go.undef = a.tmps.getD t Go.undef := by
        simp only [Array.getD, Array.size_setIfInBounds]
        split
        · rename_i ht
          simp only [Array.getElem_setIfInBounds ht, Array.getInternal_eq_getElem]
          rw [if_neg (fun h => e h.symm)]
        · rfl
      rw [this]; exact h1


/-! ### Calls -/

def FnOk (P : Program) (f : FuncId) : Prop := ∃ fn, P.funcs[f]? = some fn ∧ (fn.name == "runtime.NumGoroutine") = false ∧ fn.body.isNone = false

def relA (g : G) (w : World) (args : List AV) (xs : List Value) : Prop :=
  args.length = xs.length ∧ ∀ (i : Nat) v x, args[i]? = some v → xs[i]? = some x → relV g w v x

def TCalls (P : Program) (f : FuncId) (args : List AV) (σ : AST) (K : AV → AST → Prop) : Prop :=
  FnOk P f ∧ ∀ (g : G) (w : World) (xs : Array Value), Inv g σ w → relA g w args xs.toList →
    Calls P f xs w fun e w' => ∃ x g' v σ', e = .returned x ∧ Ev g w g' w' ∧ Inv g' σ' w' ∧ relV g' w' v x ∧ K v σ'

theorem TCalls.mono {P : Program} {f : FuncId} {args : List AV} {σ : AST} {K K' : AV → AST → Prop} (h : TCalls P f args σ K) (hk : ∀ v σ', K v σ' → K' v σ') : TCalls P f args σ K' :=
  ⟨h.1, fun g w xs hI hr => (h.2 g w xs hI hr).mono fun e w' ⟨x, g', v, σ', he, h1, h2, h3, h4⟩ => ⟨x, g', v, σ', he, h1, h2, h3, hk _ _ h4⟩⟩

def YCalls (P : Program) (l : Nat) (args : List AV) (σ : AST) (K : AV → AST → Prop) : Prop :=
  ∀ (g : G) (w : World) (xs : Array Value), Inv g σ w → relA g w args xs.toList →
    YieldAt Fence.wide 0 P l xs w fun e w' => ∃ x g' v σ', e = .returned x ∧ Ev g w g' w' ∧ Inv g' σ' w' ∧ relV g' w' v x ∧ K v σ'

theorem YCalls.mono {P : Program} {l : Nat} {args : List AV} {σ : AST} {K K' : AV → AST → Prop} (h : YCalls P l args σ K) (hk : ∀ v σ', K v σ' → K' v σ') : YCalls P l args σ K' :=
  fun g w xs hI hr => by
    obtain ⟨fn, tmps, assign, body, hy, hR⟩ := h g w xs hI hr
    exact ⟨fn, tmps, assign, body, hy, hR.mono fun e w' ⟨x, g', v, σ', he, h1, h2, h3, h4⟩ => ⟨x, g', v, σ', he, h1, h2, h3, hk _ _ h4⟩⟩

/-! ### Types -/

def aggT (P : Program) (t : TypeId) : Option Bool :=
  (P.underlying t).map fun | .struct _ | .array _ _ => true | _ => false

def fits (P : Program) (t : TypeId) (v : AV) : Prop := aggT P t = some v.isAgg ∧ P.cellsOf t = v.size

def placeOf (P : Program) (t : TypeId) (i : Nat) : Option (Nat × TypeId) :=
  match P.underlying t with
  | some (.struct fs) => (fs[i]?).map fun f => (f.offset, f.type)
  | some (.array n e) => if i < n then some (i * P.cellsOf e, e) else none
  | _ => none

def partIs (P : Program) (t : TypeId) (ps : List AV) (i : Nat) (v : AV) : Prop :=
  ∃ T, placeOf P t i = some (AV.sizes (ps.take i), T) ∧ fits P T v

def isU8 (P : Program) (e : TypeId) : Bool := match P.underlying e with | some (.int .u8) => true | _ => false

def zeroA (P : Program) : Nat → TypeId → AV
  | 0, _ => .undef
  | n + 1, t => match P.underlying t with
    | some .bool => .bool false
    | some (.int k) => .int k 0
    | some .string => .str []
    | some (.pointer _) => .ptr none
    | some (.slice _) => .slice .full []
    | some (.map _ _) => .mp none
    | some (.func _ _ _) => .nilFn
    | some (.interface _) => .nilIface
    | some (.struct fs) => .agg (fs.toList.map fun f => zeroA P n f.type)
    | some (.array k e) => if k = 32 ∧ isU8 P e = true then .dig ⟨List.replicate 32 0, by simp⟩ else .agg (List.replicate k (zeroA P n e))
    | _ => .undef

mutual
def conc : AV → Option (List Value)
  | .bool b => some [.bool b]
  | .int k n => some [.int k n]
  | .str s => if s.length ≤ maxL then some [.string ⟨s.toArray⟩] else none
  | .ptr none => some [.pointer none]
  | .slice .full [] => some [.slice none 0 0]
  | .mp none => some [.map none]
  | .nilFn => some [.nilFunc]
  | .nilIface => some [.nilIface]
  | .dig d => some (d.l.map fun b => .int .u8 b.toNat)
  | .agg ps => concs ps
  | _ => none
def concs : List AV → Option (List Value)
  | [] => some []
  | p :: ps => match conc p, concs ps with
    | some a, some b => some (a ++ b)
    | _, _ => none
end

def ZeroOf (P : Program) (t : TypeId) (v : AV) : Prop :=
  ∃ i z, P.info? t = some i ∧ i.zero = some z ∧ conc v = some z.cells.toList ∧ v.isAgg = vAgg z ∧ i.size = v.size

mutual
theorem conc_rel (g : G) (w : World) : ∀ {v : AV} {cs : List Value}, conc v = some cs → relC g w v cs
  | .bool _, cs, h | .int _ _, cs, h | .nilFn, cs, h | .nilIface, cs, h | .ptr none, cs, h | .mp none, cs, h | .dig _, cs, h => by
    simp only [conc, Option.some.injEq] at h; subst h; simp only [relC]
  | .str s, cs, h => by
    simp only [conc] at h; split at h
    · rename_i hl; cases h; simp only [relC]; exact ⟨trivial, hl⟩
    · cases h
  | .slice .full [], cs, h => by
    simp only [conc, Option.some.injEq] at h; subst h; exact relC_nil g w
  | .agg ps, cs, h => by simp only [conc] at h; simp only [relC]; exact concs_rel g w h
  | .undef, cs, h | .ptr (some _), cs, h | .slice .none _, cs, h | .slice (.own _) _, cs, h | .slice .full (_ :: _), cs, h | .lit _, cs, h | .eptr _, cs, h | .mp (some _), cs, h | .fn _ _ _, cs, h | .tuple _, cs, h | .iface _ _, cs, h => by
    simp [conc] at h
theorem concs_rel (g : G) (w : World) : ∀ {ps : List AV} {cs : List Value}, concs ps = some cs → relPs g w ps cs
  | [], cs, h => by simp only [concs, Option.some.injEq] at h; subst h; simp [relPs]
  | p :: ps, cs, h => by
    simp only [concs] at h
    split at h
    · rename_i a b ha hb; cases h; simp only [relPs]; exact ⟨a, b, rfl, conc_rel g w ha, concs_rel g w hb⟩
    · cases h
end

def AV.known : AV → Bool
  | .undef | .tuple _ => false
  | _ => true

/-! ### What operations do -/

def setOk : AV → List Nat → AV → Prop
  | _, [], _ => True
  | .agg ps, i :: p, x => ∀ v, ps[i]? = some v → setOk v p x
  | .dig _, [_], .int k n => k = .u8 ∧ 0 ≤ n ∧ n < 256
  | _, _ :: _, _ => False



def boolW (v : AV) (T E : Prop) : Prop := match v with
  | .bool b => (b = true → T) ∧ (b = false → E)
  | _ => False

def loadW (P : Program) (σ : AST) (t : TypeId) (a : AV) (K : AV → Prop) : Prop := match a with
  | .ptr (some (i, p)) => match σ.objs[i]? with
    | some (.cells v) => match v.at p with
      | some x => fits P t x ∧ K x
      | none => False
    | _ => False
  | .eptr v => fits P t v ∧ K v
  | _ => False

def storeW (P : Program) (σ : AST) (t : TypeId) (a x : AV) (K : AST → Prop) : Prop := match a with
  | .ptr (some (i, p)) => match σ.objs[i]? with
    | some (.cells v) => match v.at p with
      | some u => fits P t x ∧ x.shape = u.shape ∧ x.known = true ∧ setOk v p x ∧ K (σ.set i (.cells (v.setAt p x)))
      | none => False
    | _ => False
  | _ => False

def fieldAddrW (P : Program) (σ : AST) (t : TypeId) (a : AV) (i : Nat) (K : AV → Prop) : Prop := match a with
  | .ptr (some (j, p)) => match σ.objs[j]? with
    | some (.cells v) => match v.at p with
      | some (.agg ps) => match ps[i]? with
        | some x => partIs P t ps i x ∧ 0 < x.size ∧ K (.ptr (some (j, p ++ [i])))
        | none => False
      | _ => False
    | _ => False
  | .eptr (.agg ps) => match ps[i]? with
    | some x => partIs P t ps i x ∧ 0 < x.size ∧ K (.eptr x)
    | none => False
  | _ => False

def fieldW (P : Program) (t : TypeId) (a : AV) (i : Nat) (K : AV → Prop) : Prop := match a with
  | .agg ps => match ps[i]? with
    | some x => partIs P t ps i x ∧ K x
    | none => False
  | _ => False

def u8s (l : List UInt8) : List AV := l.map fun b => .int .u8 b.toNat

def nthW {α : Type} (l : List α) (n : Int) (K : α → Prop) : Prop := 0 ≤ n ∧ n < l.length ∧ ∀ x, l[n.toNat]? = some x → K x

def indexW (P : Program) (t : TypeId) (a i : AV) (K : AV → Prop) : Prop := match i with
  | .int _ n => match a with
    | .str s => P.underlying t = some .string ∧ nthW s n fun b => K (.int .u8 b.toNat)
    | .dig d => (∃ e, P.underlying t = some (.array 32 e) ∧ fits P e (.int .u8 0)) ∧ nthW d.l n fun b => K (.int .u8 b.toNat)
    | .agg ps => nthW ps n fun x => partIs P t ps n.toNat x ∧ (∃ e, P.underlying t = some (.array ps.length e)) ∧ K x
    | _ => False
  | _ => False

def indexAddrW (P : Program) (σ : AST) (t : TypeId) (a i : AV) (K : AV → Prop) : Prop := match i with
  | .int _ n => match a with
    | .slice _ xs => ∃ e, P.underlying t = some (.slice e) ∧ nthW xs n fun x => fits P e x ∧ 0 < x.size ∧ K (.eptr x)
    | .ptr (some (j, p)) => match σ.objs[j]? with
      | some (.cells v) => match v.at p with
        | some (.agg ps) => nthW ps n fun x => partIs P t ps n.toNat x ∧ (∃ e, P.underlying t = some (.array ps.length e)) ∧ K (.ptr (some (j, p ++ [n.toNat])))
        | some (.dig d) => nthW d.l n fun x => (∃ e, P.underlying t = some (.array 32 e) ∧ fits P e (.int .u8 0)) ∧ K (.ptr (some (j, p ++ [n.toNat])))
        | _ => False
      | _ => False
    | .eptr (.agg ps) => nthW ps n fun x => partIs P t ps n.toNat x ∧ (∃ e, P.underlying t = some (.array ps.length e)) ∧ K (.eptr x)
    | .arr j p m => match σ.objs[j]? with
      | some (.cells v) => match v.at p with
        | some (.agg ps) => ∃ e, P.underlying t = some (.slice e) ∧ m ≤ ps.length ∧ AV.sizes (ps.take n.toNat) = n.toNat * P.cellsOf e ∧ nthW (ps.take m) n fun x => fits P e x ∧ K (.ptr (some (j, p ++ [n.toNat])))
        | _ => False
      | _ => False
    | _ => False
  | _ => False

def Built (P : Program) (t : TypeId) : Prop := match P.underlying t with
  | some (.struct fs) => fs.toList.all (fun f => (P.info? f.type).isSome) = true
  | some (.array _ e) => (P.info? e).isSome = true
  | _ => False

def fillW (P : Program) (t : TypeId) : List (Nat × AV) → AV → (AV → Prop) → Prop
  | [], v, K => K v
  | (i, x) :: r, .agg ps, K => ∃ u, ps[i]? = some u ∧ partIs P t ps i x ∧ u.shape = x.shape ∧ x.known = true ∧ fillW P t r (.agg (ps.set i x)) K
  | (i, .int .u8 n) :: r, .dig d, K => (∃ e, P.underlying t = some (.array 32 e) ∧ fits P e (.int .u8 0)) ∧ i < 32 ∧ 0 ≤ n ∧ n < 256 ∧ fillW P t r (.dig (d.set i n)) K
  | _, _, _ => False

def buildSliceW (P : Program) (t : TypeId) (len : Nat) (parts : List (Nat × AV)) (K : AV → Prop) : Prop :=
  ∃ e, P.underlying t = some (.slice e) ∧ parts.map (·.1) = List.range len ∧ len * P.cellsOf e ≤ 16777216 ∧ (∀ v ∈ parts.map (·.2), fits P e v ∧ v.known = true) ∧ (∃ z, ZeroOf P e z) ∧ 0 < P.cellsOf e ∧
    (K (.slice .full (parts.map (·.2))) ∨ 0 < len ∧ K (.slice .lit (parts.map (·.2))))

def intW (op : BinOp) (k : IntKind) (a b : Int) (K : AV → Prop) : Prop := match op with
  | .add => K (.int k (k.wrap (a + b)))
  | .sub => K (.int k (k.wrap (a - b)))
  | .mul => K (.int k (k.wrap (a * b)))
  | .quo => b ≠ 0 ∧ K (.int k (k.wrap (a.tdiv b)))
  | .rem => b ≠ 0 ∧ K (.int k (a.tmod b))
  | .eql => K (.bool (a == b))
  | .neq => K (.bool (a != b))
  | .lss => K (.bool (a < b))
  | .leq => K (.bool (a ≤ b))
  | .gtr => K (.bool (a > b))
  | .geq => K (.bool (a ≥ b))
  | _ => False

def strW (op : BinOp) (a b : List UInt8) (K : AV → Prop) : Prop := match op with
  | .add => a.length + b.length ≤ maxL ∧ K (.str (a ++ b))
  | .eql => K (.bool (a == b))
  | .neq => K (.bool !(a == b))
  | .lss => K (.bool (Op.bytesLess a b))
  | .leq => K (.bool (Op.bytesLess a b || a == b))
  | .gtr => K (.bool !(Op.bytesLess a b || a == b))
  | .geq => K (.bool !(Op.bytesLess a b))
  | _ => False

def isI64 (P : Program) (e : TypeId) : Bool := match P.underlying e with | some (.int .i64) => true | _ => false
def i64s : List AV → Option (List Int)
  | [] => some []
  | .int .i64 n :: r => (i64s r).map (n :: ·)
  | _ :: _ => none
def eqI (xs ys : List AV) : Option Bool := match i64s xs, i64s ys with
  | some a, some b => some (a == b)
  | _, _ => none
mutual
def eqA (P : Program) : Nat → TypeId → AV → AV → Option Bool
  | 0, _, _, _ => none
  | n + 1, t, x, y => match P.underlying t, x, y with
    | some .bool, .bool a, .bool b => some (a == b)
    | some (.int _), .int k a, .int k' b => if k = k' then some (a == b) else none
    | some .string, .str a, .str b => some (a == b)
    | some (.array 32 e), .dig a, .dig b => if isU8 P e = true ∧ P.cellsOf e = 1 ∧ 3 ≤ n then some (a.l == b.l) else none
    | some (.array k e), .agg xs, .agg ys => if isI64 P e = true ∧ P.cellsOf e = 1 ∧ 3 ≤ n ∧ xs.length = k ∧ ys.length = k then eqI xs ys else none
    | some (.struct fs), .agg xs, .agg ys => if P.stoodInHeld t = false then eqAs P n t 0 fs.toList xs ys xs ys else none
    | some (.pointer _), .ptr none, .ptr b => some b.isNone
    | some (.pointer _), .ptr a, .ptr none => some a.isNone
    | _, _, _ => none
def eqAs (P : Program) : Nat → TypeId → Nat → List Field → List AV → List AV → List AV → List AV → Option Bool
  | 0, _, _, _, _, _, _, _ => none
  | _ + 1, _, _, [], _, _, _, _ => some true
  | n + 1, t, i, f :: fs, x :: xs, y :: ys, ax, ay =>
    if f.name ≠ "_" ∧ f.offset = AV.sizes (ax.take i) ∧ f.offset = AV.sizes (ay.take i) ∧ aggT P f.type = some x.isAgg ∧ P.cellsOf f.type = x.size ∧ aggT P f.type = some y.isAgg ∧ P.cellsOf f.type = y.size then
      match eqA P n f.type x y with
      | some true => eqAs P n t (i + 1) fs xs ys ax ay
      | some false => some false
      | none => none
    else none
  | _, _, _, _, _, _, _, _ => none
end
def eqW (op : BinOp) (r : Option Bool) (K : AV → Prop) : Prop := match op with
  | .eql => ∃ b, r = some b ∧ K (.bool b)
  | .neq => ∃ b, r = some b ∧ K (.bool !b)
  | _ => False

def binW (P : Program) (op : BinOp) (t : TypeId) (x y : AV) (K : AV → Prop) : Prop := match x, y with
  | .int k a, .int k' b => k = k' ∧ intW op k a b K
  | .str a, .str b => strW op a b K
  | .bool a, .bool b => eqW op (eqA P 40 t (.bool a) (.bool b)) K
  | .ptr a, .ptr b => eqW op (eqA P 40 t (.ptr a) (.ptr b)) K
  | .agg a, .agg b => P.eqGuardType P.depth t = false ∧ eqW op (eqA P 40 t (.agg a) (.agg b)) K
  | .dig a, .dig b => P.eqGuardType P.depth t = false ∧ eqW op (eqA P 40 t (.dig a) (.dig b)) K
  | _, _ => False

def unW (op : UnOp) (x : AV) (K : AV → Prop) : Prop := match op, x with
  | .not, .bool b => K (.bool !b)
  | .neg, .int k n => K (.int k (k.wrap (0 - n)))
  | _, _ => False

def unU8 : List AV → Option (List UInt8)
  | [] => some []
  | .int .u8 n :: r => (unU8 r).map (UInt8.ofNat n.toNat :: ·)
  | _ :: _ => none

def convW (P : Program) (s d : TypeId) (x : AV) (σ : AST) (K : AV → AST → Prop) : Prop := match x with
  | .int _ n => ∃ k, P.underlying d = some (.int k) ∧ (∃ u, P.underlying s = some u) ∧ K (.int k (k.wrap n)) σ
  | .str l => (P.underlying d = some .string ∧ P.underlying s = some .string ∧ K (.str l) σ) ∨
      (∃ e, P.underlying d = some (.slice e) ∧ P.underlying e = some (.int .u8) ∧ P.underlying s = some .string ∧ (K (.slice (.own σ.toks.length) (u8s l)) (σ.tok l.length 1) ∨
        ∀ n : Nat, l.length + n ≤ maxL → K (.arr σ.objs.length [] l.length) (σ.push (.cells (.agg (u8s l ++ List.replicate n (.int .u8 0)))))))
  | .slice tk xs => (∃ e l, P.underlying s = some (.slice e) ∧ P.underlying e = some (.int .u8) ∧ P.underlying d = some .string ∧ unU8 xs = some l ∧ K (.str l) σ) ∨
      (tk = .lit ∧ s = d ∧ ∃ e, P.underlying s = some (.slice e) ∧ P.underlying e = some (.int .u8) ∧ K (.slice .full xs) σ)
  | .arr i p n => match σ.objs[i]? with
    | some (.cells v) => match v.at p with
      | some (.dig dg) => n = 32 ∧ ∃ e, P.underlying s = some (.slice e) ∧ P.underlying e = some (.int .u8) ∧ P.underlying d = some .string ∧ K (.str dg.l) σ
      | some (.agg ps) => ∃ e l, P.underlying s = some (.slice e) ∧ P.underlying e = some (.int .u8) ∧ P.underlying d = some .string ∧ unU8 (ps.take n) = some l ∧ n ≤ ps.length ∧ K (.str l) σ
      | _ => False
    | _ => False
  | _ => False

def copyW (P : Program) (ts : Array TypeId) (dst src : AV) (σ : AST) (K : AV → AST → Prop) : Prop := ∃ t e, ts[0]? = some t ∧ P.underlying t = some (.slice e) ∧ P.cellsOf e = 1 ∧ (∃ u, P.underlying e = some u) ∧ match dst, src with
  | .arr i p n, .str l => match σ.objs[i]? with
    | some (.cells v) => match v.at p with
      | some (.dig dg) => n = 32 ∧ ∃ h : l.length = 32, setOk v p (.dig ⟨l, h⟩) ∧ K (.int .i64 32) (σ.set i (.cells (v.setAt p (.dig ⟨l, h⟩))))
      | _ => False
    | _ => False
  | _, _ => False

theorem copyW_mono {P : Program} {ts : Array TypeId} {a b : AV} {σ : AST} {K K' : AV → AST → Prop} (hk : ∀ v σ', K v σ' → K' v σ') (h : copyW P ts a b σ K) : copyW P ts a b σ K' := by
  obtain ⟨t, e, h1, h2, h3, h4, h⟩ := h
  refine ⟨t, e, h1, h2, h3, h4, ?_⟩
  split at h
  · rename_i i p n l
    split at h
    · rename_i v hobj
      split at h
      · rename_i dg hat
        obtain ⟨h5, h6, h7, h8⟩ := h
        exact ⟨h5, h6, h7, hk _ _ h8⟩
      · exact h.elim
    · exact h.elim
  · exact h.elim
def bndW (v : Option AV) (dflt : Nat) (K : Nat → Prop) : Prop := match v with
  | none => K dflt
  | some (.int _ n) => 0 ≤ n ∧ K n.toNat
  | _ => False

def subTk : Tk → Bool → Tk
  | .full, true => .full
  | _, _ => .none

def arrOfT (P : Program) (t e : TypeId) (n : Nat) : Prop := (∃ a, P.underlying t = some (.pointer a) ∧ P.underlying a = some (.array n e)) ∨ P.underlying t = some (.array n e)
def sliceW (P : Program) (t : TypeId) (x : AV) (lo hi mx : Option AV) (K : AV → Prop) : Prop := match x with
  | .str s => P.underlying t = some .string ∧ mx.isNone = true ∧ bndW lo 0 fun l => bndW hi s.length fun h => l ≤ h ∧ h ≤ s.length ∧ K (.str ((s.take h).drop l))
  | .slice tk xs => ∃ e, P.underlying t = some (.slice e) ∧ (∀ v ∈ xs, v.size = P.cellsOf e) ∧ (∃ d, P.underlying e = some d) ∧ bndW lo 0 fun l => bndW hi xs.length fun h => l ≤ h ∧ h ≤ xs.length ∧
      match mx with
      | none => K (.slice (subTk tk (h == xs.length)) ((xs.take h).drop l))
      | some (.int _ m) => m = h ∧ hi.isSome = true ∧ K (.slice .full ((xs.take h).drop l))
      | _ => False
  | .ptr (some (i, p)) => ∃ e n, arrOfT P t e n ∧ n ≤ maxL ∧ (∃ d, P.underlying e = some d) ∧ mx.isNone = true ∧ lo.isNone = true ∧ bndW hi n fun h => h ≤ n ∧ K (.arr i p h)
  | _ => False

def elemsOf (P : Program) (t : TypeId) : AV → Option (List AV)
  | .slice _ ys => match P.underlying t with
    | some (.slice _) => some ys
    | _ => none
  | .str s => match P.underlying t with
    | some .string => some (u8s s)
    | _ => none
  | _ => none

def appendW0 (P : Program) (ts : Array TypeId) (s x : AV) (σ : AST) (K : AV → AST → Prop) : Prop :=
  ∃ t u e xs tk ys, ts[0]? = some t ∧ ts[1]? = some u ∧ P.underlying t = some (.slice e) ∧ s = .slice tk xs ∧ elemsOf P u x = some ys ∧ (∃ z, ZeroOf P e z) ∧ (∀ v ∈ ys, v.size = P.cellsOf e) ∧
    (xs.length + ys.length) * P.bytesOf e ≤ 140737488355328 ∧ xs.length + ys.length ≤ maxL ∧
    match tk with
    | .full => (∀ v ∈ xs, v.size = P.cellsOf e) ∧ K (.slice (.own σ.toks.length) (xs ++ ys)) (σ.tok (xs.length + ys.length) (P.cellsOf e))
    | .own k => σ.toks[k]? = some (xs.length, P.cellsOf e) ∧ K (.slice (.own k) (xs ++ ys)) (σ.setTok k (xs.length + ys.length) (P.cellsOf e))
    | .none | .lit => False

def appendL (P : Program) (ts : Array TypeId) (s x : AV) (σ : AST) (K : AV → AST → Prop) : Prop :=
  ∃ t u e y, ts[0]? = some t ∧ ts[1]? = some u ∧ P.underlying t = some (.slice e) ∧ elemsOf P u x = some [.int .i64 y] ∧ (∃ z, ZeroOf P e z ∧ z.size = 1) ∧ match s with
    | .slice .full xs => xs = [] ∧ P.bytesOf e ≤ 140737488355328 ∧ ∀ b c cs, cs[0]? = some (.int .i64 y) → cs.size = c → 1 ≤ c → c ≤ maxL →
        K (.lit (.slice (some ⟨b, 0, none⟩) 1 c)) (σ.push (.pin b (.cells cs e) [] []))
    | .lit (.slice (some a) n c) => ∃ i cs, a.off = 0 ∧ a.spot = none ∧ σ.objs[i]? = some (.pin a.block (.cells cs e) [] []) ∧ cs.size = c ∧ n ≤ c ∧ c ≤ maxL ∧ (n + 1) * P.bytesOf e ≤ 140737488355328 ∧ n + 1 ≤ maxL ∧
        (n < c → K (.lit (.slice (some a) (n + 1) c)) (σ.set i (.pin a.block (.cells (cs.setIfInBounds n (.int .i64 y)) e) [] []))) ∧
        ∀ b c' cs', (∀ j, j < n → cs'[j]? = cs[j]?) → cs'[n]? = some (.int .i64 y) → cs'.size = c' → n + 1 ≤ c' → c' ≤ maxL →
          K (.lit (.slice (some ⟨b, 0, none⟩) (n + 1) c')) (σ.push (.pin b (.cells cs' e) [] []))
    | _ => False
def appendW (P : Program) (ts : Array TypeId) (s x : AV) (σ : AST) (K : AV → AST → Prop) : Prop := appendW0 P ts s x σ K ∨ appendL P ts s x σ K

def lenW (P : Program) (σ : AST) (ts : Array TypeId) (x : AV) (K : AV → Prop) : Prop := ∃ t, ts[0]? = some t ∧ match x with
  | .str s => P.underlying t = some .string ∧ (s.length ≤ maxL → K (.int .i64 s.length))
  | .slice _ xs => (∃ e, P.underlying t = some (.slice e)) ∧ (xs.length ≤ maxL → K (.int .i64 xs.length))
  | .arr _ _ n => (∃ e, P.underlying t = some (.slice e)) ∧ (n ≤ maxL → K (.int .i64 n))
  | .mp none => (∃ k e, P.underlying t = some (.map k e)) ∧ K (.int .i64 0)
  | .mp (some i) => (∃ k e, P.underlying t = some (.map k e)) ∧ match σ.objs[i]? with
    | some (.map es _) => es.length ≤ maxL ∧ K (.int .i64 es.length)
    | _ => False
  | _ => False

/-! ### Maps, makes -/
mutual
def keyOk (P : Program) : Nat → TypeId → AV → Bool
  | 0, _, _ => false
  | n + 1, t, x => match P.underlying t, x with
    | some .bool, .bool _ => true
    | some (.int _), .int _ _ => true
    | some .string, .str _ => true
    | some (.struct fs), .agg xs => keyOks P n 0 fs.toList xs xs
    | _, _ => false
def keyOks (P : Program) : Nat → Nat → List Field → List AV → List AV → Bool
  | 0, _, _, _, _ => false
  | _ + 1, _, [], [], _ => true
  | n + 1, i, f :: fs, x :: xs, ax => decide (f.name ≠ "_" ∧ f.offset = AV.sizes (ax.take i) ∧ aggT P f.type = some x.isAgg ∧ P.cellsOf f.type = x.size) && keyOk P n f.type x && keyOks P n (i + 1) fs xs ax
  | _, _, _, _, _ => false
end
def eqK (P : Program) (kt : TypeId) (k k' : AV) : Option Bool := if keyOk P 40 kt k' = true then eqA P 40 kt k k' else none
def findE (P : Program) (kt : TypeId) (k : AV) : List (Nat × AV × AV) → Option (Option Nat)
  | [] => some none
  | e :: es => match eqK P kt k e.2.1 with
    | some true => some (some 0)
    | some false => (findE P kt k es).map (Option.map (· + 1))
    | none => none
def okV (ok b : Bool) (v : AV) : AV := if ok then .tuple [v, .bool b] else v
def lookupW (P : Program) (σ : AST) (t : TypeId) (x k : AV) (ok : Bool) (K : AV → Prop) : Prop :=
  ∃ kt et, P.underlying t = some (.map kt et) ∧ keyOk P 40 kt k = true ∧ match x with
  | .mp none => ZeroOf P et (zeroA P 12 et) ∧ K (okV ok false (zeroA P 12 et))
  | .mp (some i) => match σ.objs[i]? with
    | some (.map es _) => ∃ r, findE P kt k es = some r ∧ match r with
      | some j => ∀ e, es[j]? = some e → K (okV ok true e.2.2)
      | none => ZeroOf P et (zeroA P 12 et) ∧ K (okV ok false (zeroA P 12 et))
    | _ => False
  | _ => False
def mapUpdateW (P : Program) (σ : AST) (t : TypeId) (m k v : AV) (K : AST → Prop) : Prop :=
  ∃ kt et, P.underlying t = some (.map kt et) ∧ keyOk P 40 kt k = true ∧ v.known = true ∧ match m with
  | .mp (some i) => match σ.objs[i]? with
    | some (.map es ck) => ∃ r, findE P kt k es = some r ∧ match r with
      | some j => K (σ.set i (.map (es.modify j fun e => (e.1, k, v)) ck))
      | none => K (σ.set i (.map (es ++ [(ck, k, v)]) (ck + 1)))
    | _ => False
  | _ => False
def mapEntryW (P : Program) (σ : AST) (t : TypeId) (m k : AV) (K : AV → AST → Prop) : Prop :=
  ∃ kt et, P.underlying t = some (.map kt et) ∧ keyOk P 40 kt k = true ∧ match m with
  | .mp (some i) => match σ.objs[i]? with
    | some (.map es ck) => ∃ r, findE P kt k es = some r ∧ match r with
      | some j => ∀ e, es[j]? = some e → K (.tuple [e.2.2, .int .i64 e.1]) (σ.set i (.map (es.modify j fun e => (e.1, k, e.2.2)) ck))
      | none => ZeroOf P et (zeroA P 12 et) ∧ K (.tuple [zeroA P 12 et, .int .i64 ck]) (σ.set i (.map (es ++ [(ck, k, zeroA P 12 et)]) (ck + 1)))
    | _ => False
  | _ => False
def entryStoreW (σ : AST) (m st v : AV) (K : AST → Prop) : Prop := v.known = true ∧ match m, st with
  | .mp (some i), .int _ b => match σ.objs[i]? with
    | some (.map es ck) => ∃ (j : Nat) (e : Nat × AV × AV), es[j]? = some e ∧ (e.1 : Int) = b ∧ K (σ.set i (.map (es.modify j fun e => (e.1, e.2.1, v)) ck))
    | _ => False
  | _, _ => False
def deleteW (P : Program) (ts : Array TypeId) (m k : AV) (σ : AST) (K : AST → Prop) : Prop :=
  ∃ t kt et, ts[0]? = some t ∧ P.underlying t = some (.map kt et) ∧ keyOk P 40 kt k = true ∧ match m with
  | .mp none => K σ
  | .mp (some i) => match σ.objs[i]? with
    | some (.map es ck) => ∃ r, findE P kt k es = some r ∧ match r with
      | some j => K (σ.set i (.map (es.eraseIdx j) ck))
      | none => K σ
    | _ => False
  | _ => False
def clearW (P : Program) (ts : Array TypeId) (m : AV) (σ : AST) (K : AST → Prop) : Prop := (∃ t u, ts[0]? = some t ∧ P.underlying t = some u) ∧ match m with
  | .mp none => K σ
  | .mp (some i) => match σ.objs[i]? with
    | some (.map es ck) => K (σ.set i (.map [] ck))
    | _ => False
  | _ => False
def makeSliceW (P : Program) (t : TypeId) (n c : AV) (σ : AST) (K : AV → AST → Prop) : Prop := match n, c with
  | .int .i64 a, .int .i64 b => 0 ≤ a ∧ a ≤ b ∧ ∃ e z, P.underlying t = some (.slice e) ∧ ZeroOf P e z ∧ 0 < P.cellsOf e ∧ b.toNat * P.bytesOf e ≤ 16777216 ∧ b ≤ 16777216 ∧
      ((a = b ∧ K (.arr σ.objs.length [] a.toNat) (σ.push (.cells (.agg (List.replicate a.toNat z))))) ∨
        (a = b ∧ K (.slice .full (List.replicate a.toNat z)) σ) ∨
        (a = 0 ∧ K (.slice (.own σ.toks.length) []) (σ.tok 0 (P.cellsOf e))))
  | _, _ => False

def mmW (mx : Bool) (xs : List AV) (K : AV → Prop) : Prop := match xs with
  | [.int k a, .int k' b] => k = k' ∧ K (.int k (if mx then max a b else min a b))
  | _ => False


variable {g g' : G} {w w' : World} {σ σ' : AST} {P : Program}

theorem cells_one {x : Value} (h : vAgg x = false) : x.cells = #[x] := by cases x <;> simp_all [vAgg, Value.cells]

theorem cells_agg {x : Value} (h : vAgg x = true) : ∃ cs, x = .agg cs := by cases x <;> simp_all [vAgg]

theorem relV_scalar {v : AV} {x : Value} (h : relV g w v x) (hk : v.known = true) (ha : v.isAgg = false) : relC g w v [x] ∧ vAgg x = false := by
  rcases h with rfl | ⟨_, _, rfl, _⟩ | ⟨hr, hg⟩
  · simp [AV.known] at hk
  · simp [AV.known] at hk
  · rw [ha] at hg; rw [cells_one hg.symm] at hr; exact ⟨hr, hg.symm⟩

theorem relV_agg {v : AV} {x : Value} (h : relV g w v x) (ha : v.isAgg = true) : ∃ cs, x = .agg cs ∧ relC g w v cs.toList := by
  rcases h with rfl | ⟨_, _, rfl, _⟩ | ⟨hr, hg⟩
  · simp [AV.isAgg] at ha
  · simp [AV.isAgg] at ha
  · rw [ha] at hg; obtain ⟨cs, rfl⟩ := cells_agg hg.symm; exact ⟨cs, rfl, hr⟩

theorem relV_known {v : AV} {x : Value} (h : relV g w v x) (hk : v.known = true) : relC g w v x.cells.toList ∧ v.isAgg = vAgg x := by
  rcases h with rfl | ⟨_, _, rfl, _⟩ | h
  · simp [AV.known] at hk
  · simp [AV.known] at hk
  · exact h

theorem relV_int {k : IntKind} {n : Int} {x : Value} (h : relV g w (.int k n) x) : x = .int k n := by
  have := (relV_scalar h rfl rfl).1; simpa [relC] using this
theorem relV_bool {b : Bool} {x : Value} (h : relV g w (.bool b) x) : x = .bool b := by
  have := (relV_scalar h rfl rfl).1; simpa [relC] using this
theorem relV_str {s : List UInt8} {x : Value} (h : relV g w (.str s) x) : x = .string ⟨s.toArray⟩ ∧ s.length ≤ maxL := by
  have := (relV_scalar h rfl rfl).1; simpa [relC] using this
theorem relV_ptr {i : Nat} {p : List Nat} {x : Value} (h : relV g w (.ptr (some (i, p))) x) :
    ∃ b sh o, g.objs[i]? = some (b, sh) ∧ sh.off p = some o ∧ x = .pointer (some ⟨b, o, none⟩) := by
  have := (relV_scalar h rfl rfl).1; simpa [relC] using this
theorem relV_nilptr {x : Value} (h : relV g w (.ptr none) x) : x = .pointer none := by
  have := (relV_scalar h rfl rfl).1; simpa [relC] using this
theorem relV_eptr {v : AV} {x : Value} (h : relV g w (.eptr v) x) : ∃ b o cv, x = .pointer (some ⟨b, o, none⟩) ∧ relC g w v cv ∧ rd w b o cv ∧ g.below b (o + cv.length) := by
  have := (relV_scalar h rfl rfl).1; simpa [relC] using this
theorem relV_slice {tk : Tk} {xs : List AV} {x : Value} (h : relV g w (.slice tk xs) x) :
    ∃ ad a c es css, x = .slice ad xs.length c ∧ Ad ad a c ∧ relEs g w es xs css ∧ xs.length ≤ c ∧ c ≤ maxL ∧ (a = none → c = 0) ∧
      (∀ b o, a = some (b, o) → css = [] ∨ (rd w b o css ∧ g.below b (o + css.length))) ∧ tkOk g a xs.length c es tk := by
  have := (relV_scalar h rfl rfl).1; simpa [relC] using this
theorem relV_tuple {vs : List AV} {x : Value} (h : relV g w (.tuple vs) x) : ∃ a, x = .tuple a ∧ relVs g w vs a.toList := by
  rcases h with h | ⟨vs', a, h, rfl, hr⟩ | ⟨hr, _⟩
  · cases h
  · cases h; exact ⟨a, rfl, hr⟩
  · simp [relC] at hr

theorem relV_of {v : AV} {x : Value} (h : relC g w v x.cells.toList) (ha : v.isAgg = vAgg x) : relV g w v x := .inr (.inr ⟨h, ha⟩)
theorem relV_mkInt (k : IntKind) (n : Int) : relV g w (.int k n) (.int k n) := relV_of (by simp [relC, Value.cells]) rfl
theorem relV_mkBool (b : Bool) : relV g w (.bool b) (.bool b) := relV_of (by simp [relC, Value.cells]) rfl
theorem relV_mkStr {s : List UInt8} (h : s.length ≤ maxL) : relV g w (.str s) (.string ⟨s.toArray⟩) := relV_of (by simp [relC, Value.cells, h]) rfl

/-! ### Parts -/

theorem relPs_nth : ∀ {ps : List AV} {cs : List Value} {i : Nat} {x : AV}, relPs g w ps cs → ps[i]? = some x →
    ∃ cx, relC g w x cx ∧ (∀ j, j < cx.length → cs[AV.sizes (ps.take i) + j]? = cx[j]?) ∧ AV.sizes (ps.take i) + cx.length ≤ cs.length
  | [], cs, i, x, h, hi => by simp at hi
  | p :: ps, cs, 0, x, h, hi => by
    simp only [relPs] at h; obtain ⟨c1, c2, rfl, h1, h2⟩ := h
    simp at hi; subst hi
    exact ⟨c1, h1, fun j hj => by simp [AV.sizes, List.getElem?_append_left hj], by simp [AV.sizes]⟩
  | p :: ps, cs, i + 1, x, h, hi => by
    simp only [relPs] at h; obtain ⟨c1, c2, rfl, h1, h2⟩ := h
    simp at hi
    obtain ⟨cx, hx, hc, hl⟩ := relPs_nth h2 hi
    have hs := relC_size h1
    refine ⟨cx, hx, fun j hj => ?_, ?_⟩
    · rw [← hc j hj, List.take_succ_cons, AV.sizes, ← hs, List.getElem?_append_right (by omega)]
      congr 1; omega
    · simp only [List.take_succ_cons, AV.sizes, List.length_append, ← hs]; omega

theorem relEs_nth {es : Nat} : ∀ {ps : List AV} {cs : List Value} {i : Nat} {x : AV}, relEs g w es ps cs → ps[i]? = some x →
    ∃ cx, relC g w x cx ∧ cx.length = es ∧ (∀ j, j < cx.length → cs[i * es + j]? = cx[j]?) ∧ i * es + es ≤ cs.length
  | [], cs, i, x, h, hi => by simp at hi
  | p :: ps, cs, 0, x, h, hi => by
    simp only [relEs] at h; obtain ⟨c1, c2, rfl, hl, h1, h2⟩ := h
    simp at hi; subst hi
    exact ⟨c1, h1, hl, fun j hj => by simp [List.getElem?_append_left hj], by simp [hl]⟩
  | p :: ps, cs, i + 1, x, h, hi => by
    simp only [relEs] at h; obtain ⟨c1, c2, rfl, hl, h1, h2⟩ := h
    simp at hi
    obtain ⟨cx, hx, hlx, hc, hle⟩ := relEs_nth h2 hi
    refine ⟨cx, hx, hlx, fun j hj => ?_, ?_⟩
    · rw [← hc j hj, List.getElem?_append_right (by rw [hl, Nat.add_mul]; omega)]
      congr 1; rw [hl, Nat.add_mul]; omega
    · simp only [List.length_append, hl, Nat.add_mul]; omega

theorem sizes_take (ps : List AV) (i : Nat) : Shape.sizes ((AV.shapes ps).take i) = AV.sizes (ps.take i) := by
  rw [← AV.sizes_shapes, AV.shapes_eq_map, AV.shapes_eq_map, List.map_take]

theorem shapes_get (ps : List AV) (i : Nat) : (AV.shapes ps)[i]? = (ps[i]?).map AV.shape := by
  rw [AV.shapes_eq_map, List.getElem?_map]

theorem at_nil (v : AV) : v.at [] = some v := by cases v <;> rfl

theorem at_off : ∀ {p : List Nat} {v u : AV}, v.at p = some u → ∃ o, v.shape.off p = some o
  | [], v, u, h => ⟨0, by cases v <;> simp [AV.shape, Shape.off]⟩
  | i :: p, .agg ps, u, h => by
    simp only [AV.at, Option.bind_eq_some_iff] at h
    obtain ⟨x, hx, hu⟩ := h
    obtain ⟨o, ho⟩ := at_off hu
    exact ⟨AV.sizes (ps.take i) + o, by simp [AV.shape, Shape.off, shapes_get, hx, ho, sizes_take]⟩
  | [i], .dig d, u, h => by
    simp only [AV.at, Option.map_eq_some_iff] at h
    obtain ⟨b, hb, _⟩ := h
    have : i < 32 := by have := (List.getElem?_eq_some_iff.1 hb).1; rw [d.h] at this; exact this
    exact ⟨i, by simp [AV.shape, Shape.off, this]⟩
  | i :: j :: p, .dig d, u, h => by simp [AV.at] at h
  | i :: p, .undef, u, h | i :: p, .bool _, u, h | i :: p, .int _ _, u, h | i :: p, .str _, u, h | i :: p, .ptr _, u, h | i :: p, .slice _ _, u, h | i :: p, .eptr _, u, h
  | i :: p, .mp _, u, h | i :: p, .fn _ _ _, u, h | i :: p, .nilFn, u, h | i :: p, .lit _, u, h | i :: p, .tuple _, u, h | i :: p, .iface _ _, u, h | i :: p, .nilIface, u, h => by simp [AV.at] at h

theorem at_rel : ∀ {p : List Nat} {v u : AV} {cs : List Value} {o : Nat}, relC g w v cs → v.at p = some u → v.shape.off p = some o →
    ∃ cu, relC g w u cu ∧ (∀ j, j < cu.length → cs[o + j]? = cu[j]?) ∧ o + cu.length ≤ cs.length
  | [], v, u, cs, o, h, hu, ho => by
    have h1 : v = u := by rw [at_nil] at hu; exact Option.some.inj hu
    have h2 : o = 0 := by cases v <;> simp_all [AV.shape, Shape.off]
    subst h1 h2; exact ⟨cs, h, fun j _ => by simp, by simp⟩
  | i :: p, .agg ps, u, cs, o, h, hu, ho => by
    simp only [AV.at, Option.bind_eq_some_iff] at hu
    obtain ⟨x, hx, hu⟩ := hu
    simp only [AV.shape, Shape.off, shapes_get, hx, Option.map_some, Option.bind_some, Option.map_eq_some_iff, sizes_take] at ho
    obtain ⟨o', ho', rfl⟩ := ho
    simp only [relC] at h
    obtain ⟨cx, hcx, hc, hl⟩ := relPs_nth h hx
    obtain ⟨cu, hcu, hc', hl'⟩ := at_rel hcx hu ho'
    refine ⟨cu, hcu, fun j hj => ?_, by omega⟩
    rw [← hc' j hj, ← hc (o' + j) (by omega)]; congr 1; omega
  | [i], .dig d, u, cs, o, h, hu, ho => by
    simp only [AV.at, Option.map_eq_some_iff] at hu
    obtain ⟨b, hb, rfl⟩ := hu
    have hi : i < 32 := by have := (List.getElem?_eq_some_iff.1 hb).1; rw [d.h] at this; exact this
    simp [AV.shape, Shape.off, hi] at ho
    subst ho
    simp only [relC] at h; subst h
    refine ⟨[.int .u8 b.toNat], by simp [relC], fun j hj => ?_, by simp [d.h]; omega⟩
    have : j = 0 := by simpa using hj
    subst this; simp [hb]
  | i :: j :: p, .dig d, u, cs, o, h, hu, ho => by simp [AV.at] at hu
  | i :: p, .undef, u, _, _, _, h, _ | i :: p, .bool _, u, _, _, _, h, _ | i :: p, .int _ _, u, _, _, _, h, _ | i :: p, .str _, u, _, _, _, h, _ | i :: p, .ptr _, u, _, _, _, h, _ | i :: p, .slice _ _, u, _, _, _, h, _ | i :: p, .eptr _, u, _, _, _, h, _
  | i :: p, .mp _, u, _, _, _, h, _ | i :: p, .fn _ _ _, u, _, _, _, h, _ | i :: p, .nilFn, u, _, _, _, h, _ | i :: p, .lit _, u, _, _, _, h, _ | i :: p, .tuple _, u, _, _, _, h, _ | i :: p, .iface _ _, u, _, _, _, h, _ | i :: p, .nilIface, u, _, _, _, h, _ => by simp [AV.at] at h

/-! ### Types' facts -/

theorem info_of {t : TypeId} {d : TypeDesc} (h : P.underlying t = some d) : ∃ i, P.info? t = some i ∧ i.size = P.cellsOf t ∧ i.bytes = P.bytesOf t := by
  unfold Program.underlying at h
  cases hi : P.info? t with
  | none => rw [hi] at h; simp at h
  | some i => exact ⟨i, rfl, by simp [Program.cellsOf, hi], by simp [Program.bytesOf, hi]⟩

theorem run_sizeOf' {t : TypeId} {d : TypeDesc} (h : P.underlying t = some d) (w : World) : (sizeOf t).run P w = .ok (P.cellsOf t) w := by
  obtain ⟨i, hi, hs, _⟩ := info_of h
  simp [sizeOf, typeInfo, hi, hs]

theorem run_isAgg' {t : TypeId} {b : Bool} (h : aggT P t = some b) (w : World) : (isAgg t).run P w = .ok b w := by
  unfold aggT at h
  cases hd : P.underlying t with
  | none => simp [hd] at h
  | some d =>
    simp only [hd, Option.map_some, Option.some.injEq] at h
    simp only [isAgg, Sem.run_bind, run_underlying hd, Result.andThen_ok]
    cases d <;> simp_all

theorem agg_under {t : TypeId} {b : Bool} (h : aggT P t = some b) : ∃ d, P.underlying t = some d := by
  unfold aggT at h
  cases hd : P.underlying t with
  | none => simp [hd] at h
  | some d => exact ⟨d, rfl⟩

theorem rd_cell {b o : Nat} {cs : List Value} (h : rd w b o cs) (j : Nat) (v : Value) (hj : cs[j]? = some v) : w.cell? ((⟨b, o, none⟩ : Addr).add j) = some v := by
  obtain ⟨c, e, fr, hc, hk⟩ := h
  have hl : j < cs.length := (List.getElem?_eq_some_iff.1 hj).1
  have : (⟨b, o, none⟩ : Addr).add j = ⟨b, o + j, none⟩ := by unfold Addr.add; split <;> simp_all
  rw [this]
  simp [World.cell?, hc, hk j hl, hj]

theorem relC_scalar {v : AV} {cs : List Value} (h : relC g w v cs) (ha : v.isAgg = false) : ∃ x, cs = [x] := by
  have hs := relC_size h
  have : v.size = 1 := by cases v <;> simp_all [AV.isAgg, AV.size]
  rw [this] at hs
  exact List.length_eq_one_iff.1 hs

mutual
theorem relC_cell1 : ∀ {v : AV} {cs : List Value}, relC g w v cs → ∀ c ∈ cs, c.oneCell' = true
  | .undef, cs, h => by simp only [relC] at h; obtain ⟨c, rfl, hc⟩ := h; simpa using hc
  | .bool _, cs, h | .int _ _, cs, h | .nilFn, cs, h | .nilIface, cs, h => by simp only [relC] at h; subst h; simp [Value.oneCell']
  | .str _, cs, h => by simp only [relC] at h; obtain ⟨rfl, _⟩ := h; simp [Value.oneCell']
  | .lit _, cs, h => by simp only [relC] at h; obtain ⟨rfl, h⟩ := h; simpa using h
  | .ptr none, cs, h => by simp only [relC] at h; subst h; simp [Value.oneCell']
  | .ptr (some (i, p)), cs, h => by simp only [relC] at h; obtain ⟨_, _, _, _, _, rfl⟩ := h; simp [Value.oneCell']
  | .slice _ _, cs, h => by simp only [relC] at h; obtain ⟨_, _, _, _, _, rfl, _⟩ := h; simp [Value.oneCell']
  | .eptr _, cs, h => by simp only [relC] at h; obtain ⟨_, _, _, rfl, _⟩ := h; simp [Value.oneCell']
  | .mp none, cs, h => by simp only [relC] at h; subst h; simp [Value.oneCell']
  | .arr _ _ _, cs, h => by simp only [relC] at h; obtain ⟨_, _, _, _, _, _, rfl, _⟩ := h; simp [Value.oneCell']
  | .mp (some _), cs, h => by simp only [relC] at h; obtain ⟨_, _, _, rfl⟩ := h; simp [Value.oneCell']
  | .fn _ _ _, cs, h => by simp only [relC] at h; obtain ⟨_, _, rfl, _⟩ := h; simp [Value.oneCell']
  | .agg ps, cs, h => by simp only [relC] at h; exact relPs_cell1 h
  | .dig d, cs, h => by simp only [relC] at h; subst h; intro c hc; simp at hc; obtain ⟨b, _, rfl⟩ := hc; rfl
  | .tuple _, cs, h => by simp only [relC] at h
  | .iface _ _, cs, h => by simp only [relC] at h; obtain ⟨_, rfl, _⟩ := h; simp [Value.oneCell']
theorem relPs_cell1 : ∀ {ps : List AV} {cs : List Value}, relPs g w ps cs → ∀ c ∈ cs, c.oneCell' = true
  | [], cs, h => by simp only [relPs] at h; subst h; simp
  | p :: ps, cs, h => by
    simp only [relPs] at h; obtain ⟨c1, c2, rfl, h1, h2⟩ := h
    intro c hc
    rcases List.mem_append.1 hc with hc | hc
    · exact relC_cell1 h1 c hc
    · exact relPs_cell1 h2 c hc
end

theorem vAgg_one {c : Value} (h : c.oneCell' = true) : vAgg c = false := by cases c <;> simp_all [Value.oneCell', vAgg]

theorem run_loadVar' {t : TypeId} {b o : Nat} {v : AV} {cv : List Value} (hf : fits P t v) (hv : relC g w v cv) (hr : rd w b o cv) :
    ∃ x, (loadVar t ⟨b, o, none⟩).run P w = .ok x w ∧ relV g w v x := by
  obtain ⟨ha, hs⟩ := hf
  obtain ⟨d, hd⟩ := agg_under ha
  have hc := rd_cell hr
  cases hg : v.isAgg with
  | true =>
    rw [hg] at ha
    refine ⟨.agg cv.toArray, ?_, relV_of (by simpa [Value.cells] using hv) hg⟩
    have hl := run_loadCells_list (P := P) w ⟨b, o, none⟩ cv hc
    rw [relC_size hv, ← hs] at hl
    simp [loadVar, run_isAgg' ha, run_sizeOf' hd, hl]
  | false =>
    rw [hg] at ha
    obtain ⟨x, rfl⟩ := relC_scalar hv hg
    have h1 := relC_cell1 hv x (by simp)
    refine ⟨x, ?_, relV_of ?_ ?_⟩
    · have h0 := hc 0 x rfl
      simp [Addr.add] at h0
      simp [loadVar, run_isAgg' ha, h0]
    · rw [cells_one (vAgg_one h1)]; exact hv
    · rw [hg, vAgg_one h1]

end Go.Aff

namespace Go.Aff

variable {g g' : G} {w w' : World} {σ σ' : AST} {P : Program}

def setBlk (w : World) (b : Nat) (o : Obj) : World := { w with heap := w.heap.setIfInBounds b o }

theorem setBlk_same {b : Nat} {o : Obj} (h : b < w.heap.size) : (setBlk w b o).heap[b]? = some o := by
  simp [setBlk, h]
theorem setBlk_other {b k : Nat} {o : Obj} (h : k ≠ b) : (setBlk w b o).heap[k]? = w.heap[k]? := by
  simp only [setBlk, Array.getElem?_setIfInBounds]; rw [if_neg (fun e => h e.symm)]
theorem lt_of_blk {b : Nat} {o : Obj} (h : w.heap[b]? = some o) : b < w.heap.size := (Array.getElem?_eq_some_iff.1 h).1

theorem alloc_old {b : Nat} {o : Obj} (h : b < w.heap.size) : (w.alloc o).heap[b]? = w.heap[b]? := by
  show (w.heap.push o)[b]? = _
  rw [Array.getElem?_push, if_neg (by omega)]
theorem alloc_new {o : Obj} : (w.alloc o).heap[w.heap.size]? = some o := by
  show (w.heap.push o)[w.heap.size]? = _
  simp

theorem objIn_mono (h : Ev g w g' w') {b : Nat} {sh : Shape} {o : AObj} (hb : w'.heap[b]? = w.heap[b]?) (ho : objIn g w b sh o) : objIn g' w' b sh o := by
  cases o with
  | cells v => obtain ⟨c, e, fr, hc, hf, hr, hs⟩ := ho; exact ⟨c, e, fr, hb.trans hc, hf, relC_mono h hr, hs⟩
  | map es ck =>
    obtain ⟨me, hc, hl, hk, hb', hu⟩ := ho
    exact ⟨me, hb.trans hc, hl, fun i e m h1 h2 => ⟨(hk i e m h1 h2).1, ⟨relC_mono h (hk i e m h1 h2).2.1.1, (hk i e m h1 h2).2.1.2⟩, ⟨relC_mono h (hk i e m h1 h2).2.2.1, (hk i e m h1 h2).2.2.2⟩⟩, hb', hu⟩
  | gone => trivial
  | pin l o vs xs => exact ⟨ho.1, hb.trans ho.2.1, fun i v x h1 h2 => (ho.2.2 i v x h1 h2).imp id fun ⟨a, b⟩ => ⟨relC_mono h a, b⟩⟩

theorem ev_obj (hI : Inv g σ w) {b : Nat} {o : Obj} (hb : g.base ≤ b) (hl : g.lim b = none) : Ev g w g (setBlk w b o) where
  os := rfl
  tape := rfl
  output := rfl
  size := by simp [setBlk]
  base := rfl
  old k hk := setBlk_other (by omega)
  objs _ _ h := h
  lim k L h := ⟨⟨L, h, Nat.le_refl _⟩, fun c e fr hc => ⟨c, e, fr, by rw [setBlk_other (by rintro rfl; rw [hl] at h; cases h)]; exact hc, fun _ _ => rfl⟩⟩
  toks t e h := ⟨e, h, rfl, Nat.le_refl _, fun _ => rfl, .inl rfl⟩

theorem inv_setObj (hI : Inv g σ w) {i : Nat} {o o' : AObj} {b : Nat} {sh : Shape} {B : Obj} (hi : σ.objs[i]? = some o) (hlv : o.live = true) (hg : g.objs[i]? = some (b, sh))
    (ho' : objIn g (setBlk w b B) b sh o') : Ev g w g (setBlk w b B) ∧ Inv g (σ.set i o') (setBlk w b B) := by
  obtain ⟨b1, sh1, h1, hbase, hlim, hin⟩ := hI.obj i o hi hlv
  rw [hg] at h1; cases h1
  have hE := ev_obj (o := B) hI hbase hlim
  refine ⟨hE, ?_⟩
  have hlen : i < σ.objs.length := (List.getElem?_eq_some_iff.1 hi).1
  refine { base := Nat.le_trans hI.base hE.size, nobj := by simp [AST.set, hI.nobj], obj := ?_, inj := ?_, rows := ?_, ntok := hI.ntok, tok := ?_, tinj := hI.tinj }
  · intro j q hq hql
    simp only [AST.set, List.getElem?_set, hlen, if_true] at hq
    split at hq
    · rename_i e; subst e
      cases hq
      exact ⟨b, sh, hg, hbase, hlim, ho'⟩
    · rename_i hne
      obtain ⟨b2, sh2, h2, hb2, hl2, hin2⟩ := hI.obj j q hq hql
      have hbb : b2 ≠ b := by
        rintro rfl
        exact hne (hI.inj i j o q b2 sh sh2 hi hq hlv hql hg h2)
      exact ⟨b2, sh2, h2, hb2, hl2, objIn_mono hE (setBlk_other hbb) hin2⟩
  · intro j k q q' b2 s2 s2' hq hq' hql hql' h2 h2'
    simp only [AST.set, List.getElem?_set] at hq hq'
    have fix : ∀ (j : Nat) (q : AObj) (b2 : Nat) (s2 : Shape), (if i = j then (if i < σ.objs.length then some o' else none) else σ.objs[j]?) = some q → q.live = true → g.objs[j]? = some (b2, s2) → ∃ q0, σ.objs[j]? = some q0 ∧ q0.live = true := by
      intro j q b2 s2 h hl _
      split at h
      · rename_i e; subst e; exact ⟨o, hi, hlv⟩
      · exact ⟨q, h, hl⟩
    obtain ⟨q0, hq0, hl0⟩ := fix j q b2 s2 hq hql h2
    obtain ⟨q1, hq1, hl1⟩ := fix k q' b2 s2' hq' hql' h2'
    exact hI.inj j k q0 q1 b2 s2 s2' hq0 hq1 hl0 hl1 h2 h2'
  · intro k L hk
    obtain ⟨h1, c, e, fr, hc, hL⟩ := hI.rows k L hk
    exact ⟨h1, c, e, fr, by rw [setBlk_other (by rintro rfl; rw [hlim] at hk; cases hk)]; exact hc, hL⟩
  · intro t e ht
    obtain ⟨h1, h2, h3, h4, h5⟩ := hI.tok t e ht
    refine ⟨h1, h2, h3, h4, fun bb oo ha hlt => ?_⟩
    obtain ⟨hl2, c, el, fr, hc, hsz, hfr⟩ := h5 bb oo ha hlt
    exact ⟨hl2, c, el, fr, by rw [setBlk_other (by rintro rfl; rw [hlim] at hl2; cases hl2)]; exact hc, hsz, hfr⟩

theorem lim_fresh (hI : Inv g σ w) : g.lim w.heap.size = none := by
  cases h : g.lim w.heap.size with
  | none => rfl
  | some L => obtain ⟨_, c, e, fr, hc, _⟩ := hI.rows _ L h; have := lt_of_blk hc; omega

theorem ev_alloc (hI : Inv g σ w) (o : Obj) (objs' : List (Nat × Shape)) (lim' : Nat → Option Nat) (toks' : List TokE)
    (h1 : ∀ (i : Nat) x, g.objs[i]? = some x → objs'[i]? = some x) (h2 : ∀ b L, g.lim b = some L → lim' b = some L) (h3 : ∀ (t : Nat) e, g.toks[t]? = some e → ∃ e', toks'[t]? = some e' ∧ e'.es = e.es ∧ e.len ≤ e'.len ∧ (e'.len = e.len → e' = e) ∧ (e'.a = e.a ∨ ∀ b o, e'.a = some (b, o) → w.heap.size ≤ b ∧ o = 0)) :
    Ev g w { g with objs := objs', lim := lim', toks := toks' } (w.alloc o) where
  os := rfl
  tape := rfl
  output := rfl
  size := by simp
  base := rfl
  old b hb := alloc_old (Nat.lt_of_lt_of_le hb hI.base)
  objs := h1
  lim b L h := ⟨⟨L, h2 b L h, Nat.le_refl _⟩, fun c e fr hc => ⟨c, e, fr, by rw [alloc_old (lt_of_blk hc)]; exact hc, fun _ _ => rfl⟩⟩
  toks := h3

theorem objs_lt (hI : Inv g σ w) {i : Nat} {o : AObj} {b : Nat} {sh : Shape} (hi : σ.objs[i]? = some o) (hl : o.live = true) (hg : g.objs[i]? = some (b, sh)) : b < w.heap.size := by
  obtain ⟨b1, sh1, h1, _, _, hin⟩ := hI.obj i o hi hl
  rw [hg] at h1; cases h1
  cases o with
  | cells v => obtain ⟨c, e, fr, hc, _⟩ := hin; exact lt_of_blk hc
  | map es ck => obtain ⟨me, hc, _⟩ := hin; exact lt_of_blk hc
  | gone => simp [AObj.live] at hl
  | pin l o vs xs => exact lt_of_blk hin.2.1

theorem getElem?_append_some {α : Type} {l l' : List α} {i : Nat} {x : α} (h : l[i]? = some x) : (l ++ l')[i]? = some x := by
  rw [List.getElem?_append_left (List.getElem?_eq_some_iff.1 h).1]; exact h

theorem inv_push (hI : Inv g σ w) {o : AObj} {B : Obj} {sh : Shape} (ho : ∀ g', Ev g w g' (w.alloc B) → objIn g' (w.alloc B) w.heap.size sh o) :
    Ev g w { g with objs := g.objs ++ [(w.heap.size, sh)] } (w.alloc B) ∧ Inv { g with objs := g.objs ++ [(w.heap.size, sh)] } (σ.push o) (w.alloc B) := by
  have hE : Ev g w { g with objs := g.objs ++ [(w.heap.size, sh)] } (w.alloc B) :=
    ev_alloc hI B _ g.lim g.toks (fun i x h => getElem?_append_some h) (fun _ _ h => h) (fun t e h => ⟨e, h, rfl, Nat.le_refl _, fun _ => rfl, .inl rfl⟩)
  refine ⟨hE, ?_⟩
  have cases_ : ∀ (j : Nat) (q : AObj), (σ.objs ++ [o])[j]? = some q → (σ.objs[j]? = some q) ∨ (j = σ.objs.length ∧ q = o) := by
    intro j q h
    rw [List.getElem?_append] at h
    split at h
    · exact .inl h
    · rename_i hj
      right
      have : j - σ.objs.length = 0 := by
        by_cases e : j - σ.objs.length = 0
        · exact e
        · rw [List.getElem?_eq_none (by simp; omega)] at h; cases h
      rw [this] at h; simp at h; exact ⟨by omega, h.symm⟩
  refine { base := Nat.le_trans hI.base hE.size, nobj := by simp [AST.push, hI.nobj], obj := ?_, inj := ?_, rows := ?_, ntok := hI.ntok, tok := ?_, tinj := hI.tinj }
  · intro j q hq hql
    rcases cases_ j q hq with h | ⟨rfl, rfl⟩
    · obtain ⟨b2, sh2, h2, hb2, hl2, hin2⟩ := hI.obj j q h hql
      exact ⟨b2, sh2, getElem?_append_some h2, hb2, hl2, objIn_mono hE (alloc_old (objs_lt hI h hql h2)) hin2⟩
    · exact ⟨w.heap.size, sh, by rw [hI.nobj]; simp, hI.base, (lim_fresh hI : g.lim w.heap.size = none), ho _ hE⟩
  · intro j k q q' b2 s2 s2' hq hq' hql hql' h2 h2'
    simp only at h2 h2'
    rcases cases_ j q hq with h | ⟨rfl, rfl⟩ <;> rcases cases_ k q' hq' with h' | ⟨rfl, rfl⟩
    · have hj : j < g.objs.length := by rw [← hI.nobj]; exact (List.getElem?_eq_some_iff.1 h).1
      have hk : k < g.objs.length := by rw [← hI.nobj]; exact (List.getElem?_eq_some_iff.1 h').1
      rw [List.getElem?_append_left hj] at h2
      rw [List.getElem?_append_left hk] at h2'
      exact hI.inj j k q q' b2 s2 s2' h h' hql hql' h2 h2'
    · have hj : j < g.objs.length := by rw [← hI.nobj]; exact (List.getElem?_eq_some_iff.1 h).1
      rw [List.getElem?_append_left hj] at h2
      rw [hI.nobj] at h2'; simp at h2'
      have := objs_lt hI h hql h2
      omega
    · have hk : k < g.objs.length := by rw [← hI.nobj]; exact (List.getElem?_eq_some_iff.1 h').1
      rw [List.getElem?_append_left hk] at h2'
      rw [hI.nobj] at h2; simp at h2
      have := objs_lt hI h' hql' h2'
      omega
    · rfl
  · intro k L hk
    obtain ⟨h1, c, e, fr, hc, hL⟩ := hI.rows k L hk
    exact ⟨h1, c, e, fr, by rw [alloc_old (lt_of_blk hc)]; exact hc, hL⟩
  · intro t e ht
    obtain ⟨h1, h2, h3, h4, h5⟩ := hI.tok t e ht
    refine ⟨h1, h2, h3, h4, fun bb oo ha hlt => ?_⟩
    obtain ⟨hl2, c, el, fr, hc, hsz, hfr⟩ := h5 bb oo ha hlt
    exact ⟨hl2, c, el, fr, by rw [alloc_old (lt_of_blk hc)]; exact hc, hsz, hfr⟩

def G.row (g : G) (b n : Nat) : G := { g with lim := fun k => if k = b then some n else g.lim k }

theorem inv_row (hI : Inv g σ w) {c : Array Value} {e : TypeId} {fr : Nat × Nat} {n : Nat} (hn : n ≤ c.size) (hfr : fr.1 = fr.2 ∨ c.size ≤ fr.1 := by exact .inl rfl) :
    Ev g w (g.row w.heap.size n) (w.alloc (.cells c e fr)) ∧ Inv (g.row w.heap.size n) σ (w.alloc (.cells c e fr)) := by
  have hfresh := lim_fresh hI
  have hlim : ∀ b L, g.lim b = some L → (g.row w.heap.size n).lim b = some L := by
    intro b L h
    simp only [G.row]
    rw [if_neg (by rintro rfl; rw [hfresh] at h; cases h)]; exact h
  have hE : Ev g w (g.row w.heap.size n) (w.alloc (.cells c e fr)) :=
    ev_alloc hI _ g.objs _ g.toks (fun i x h => h) hlim (fun t e h => ⟨e, h, rfl, Nat.le_refl _, fun _ => rfl, .inl rfl⟩)
  refine ⟨hE, ?_⟩
  refine { base := Nat.le_trans hI.base hE.size, nobj := hI.nobj, obj := ?_, inj := hI.inj, rows := ?_, ntok := hI.ntok, tok := ?_, tinj := hI.tinj }
  · intro j q hq hql
    obtain ⟨b2, sh2, h2, hb2, hl2, hin2⟩ := hI.obj j q hq hql
    have hlt := objs_lt hI hq hql h2
    exact ⟨b2, sh2, h2, hb2, by simp only [G.row]; rw [if_neg (by omega)]; exact hl2, objIn_mono hE (alloc_old hlt) hin2⟩
  · intro k L hk
    simp only [G.row] at hk
    split at hk
    · rename_i e; subst e; cases hk
      exact ⟨hI.base, c, e, fr, alloc_new, hn, hfr⟩
    · obtain ⟨h1, c', e', fr', hc, hL⟩ := hI.rows k L hk
      exact ⟨h1, c', e', fr', by rw [alloc_old (lt_of_blk hc)]; exact hc, hL⟩
  · intro t e ht
    obtain ⟨h1, h2, h3, h4, h5⟩ := hI.tok t e ht
    refine ⟨h1, h2, h3, h4, fun bb oo ha hlt => ?_⟩
    obtain ⟨hl2, c', el, fr', hc, hsz, hfr⟩ := h5 bb oo ha hlt
    exact ⟨hlim _ _ hl2, c', el, fr', by rw [alloc_old (lt_of_blk hc)]; exact hc, hsz, hfr⟩

theorem ev_drew (g : G) (w : World) : Ev g w g w.drew :=
  ⟨rfl, rfl, rfl, Nat.le_refl _, rfl, fun _ _ => rfl, fun _ _ h => h, fun b L h => ⟨⟨L, h, Nat.le_refl _⟩, fun c e fr hc => ⟨c, e, fr, hc, fun _ _ => rfl⟩⟩, fun t e h => ⟨e, h, rfl, Nat.le_refl _, fun _ => rfl, .inl rfl⟩⟩

theorem inv_drew (hI : Inv g σ w) : Inv g σ w.drew := by
  have hE := ev_drew g w
  exact { base := hI.base, nobj := hI.nobj, obj := fun j q hq hql => by
            obtain ⟨b2, sh2, h2, hb2, hl2, hin2⟩ := hI.obj j q hq hql
            exact ⟨b2, sh2, h2, hb2, hl2, objIn_mono hE rfl hin2⟩, inj := hI.inj, rows := hI.rows, ntok := hI.ntok, tok := hI.tok, tinj := hI.tinj }

theorem inv_tok (hI : Inv g σ w) (e : TokE) (h1 : e.len ≤ e.cap) (h2 : e.cap ≤ maxL) (h3 : e.a = none → e.cap = 0)
    (h4 : ∀ b o, e.a = some (b, o) → e.len < e.cap → g.lim b = some (o + e.len * e.es) ∧ (∃ c el fr, w.heap[b]? = some (.cells c el fr) ∧ o + e.cap * e.es ≤ c.size ∧ (fr.1 = fr.2 ∨ c.size ≤ fr.1)) ∧
      ∀ (t : Nat) e', g.toks[t]? = some e' → ∀ o', e'.a = some (b, o') → ¬ e'.len < e'.cap) :
    Ev g w { g with toks := g.toks ++ [e] } w ∧ Inv { g with toks := g.toks ++ [e] } (σ.tok e.len e.es) w := by
  have hE : Ev g w { g with toks := g.toks ++ [e] } w :=
    ⟨rfl, rfl, rfl, Nat.le_refl _, rfl, fun _ _ => rfl, fun _ _ h => h, fun b L h => ⟨⟨L, h, Nat.le_refl _⟩, fun c e fr hc => ⟨c, e, fr, hc, fun _ _ => rfl⟩⟩,
      fun t e h => ⟨e, getElem?_append_some h, rfl, Nat.le_refl _, fun _ => rfl, .inl rfl⟩⟩
  refine ⟨hE, ?_⟩
  have cases_ : ∀ (j : Nat) (q : TokE), (g.toks ++ [e])[j]? = some q → (g.toks[j]? = some q) ∨ (j = g.toks.length ∧ q = e) := by
    intro j q h
    rw [List.getElem?_append] at h
    split at h
    · exact .inl h
    · right
      have : j - g.toks.length = 0 := by
        by_cases e : j - g.toks.length = 0
        · exact e
        · rw [List.getElem?_eq_none (by simp; omega)] at h; cases h
      rw [this] at h; simp at h; exact ⟨by omega, h.symm⟩
  refine { base := hI.base, nobj := hI.nobj, obj := ?_, inj := hI.inj, rows := hI.rows, ntok := by simp [AST.tok, hI.ntok], tok := ?_, tinj := ?_ }
  · intro j q hq hql
    obtain ⟨b2, sh2, h2', hb2, hl2, hin2⟩ := hI.obj j q hq hql
    exact ⟨b2, sh2, h2', hb2, hl2, objIn_mono hE rfl hin2⟩
  · intro t q hq
    rcases cases_ t q hq with h | ⟨rfl, rfl⟩
    · obtain ⟨k1, k2, k3, k4, k5⟩ := hI.tok t q h
      exact ⟨getElem?_append_some k1, k2, k3, k4, k5⟩
    · refine ⟨by simp [AST.tok, ← hI.ntok], h1, h2, h3, fun b o ha hlt => ?_⟩
      obtain ⟨p1, p2, _⟩ := h4 b o ha hlt
      exact ⟨p1, p2⟩
  · intro t u q q' b o o' ht hu ha ha' hl hl'
    rcases cases_ t q ht with h | ⟨rfl, rfl⟩ <;> rcases cases_ u q' hu with h' | ⟨rfl, rfl⟩
    · exact hI.tinj t u q q' b o o' h h' ha ha' hl hl'
    · exact absurd hl ((h4 b o' ha' hl').2.2 t q h o ha)
    · exact absurd hl' ((h4 b o ha hl).2.2 u q' h' o' ha')
    · rfl

end Go.Aff

