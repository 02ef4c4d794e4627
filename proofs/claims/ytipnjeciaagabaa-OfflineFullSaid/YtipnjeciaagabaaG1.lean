import Derived.Calls
import Derived.Laws.World
import Derived.Laws.Sem

set_option linter.unusedSimpArgs false
set_option linter.unusedVariables false

/- Abstract values, and what they say of a world: slices as lists of values (with a word on who may append), structs as trees, [32]byte as one thing. -/
namespace Go.Aff
set_option linter.unusedVariables false
set_option linter.unusedSimpArgs false

/-- The 32 bytes of a sum. -/
structure Dig where
  l : List UInt8
  h : l.length = 32

/-- Who may append to a slice: nobody; whoever likes (its capacity is its length, so an append copies); whoever holds the token while the lengths agree. -/
inductive Tk where
  | none | full | lit | own (t : Nat)

inductive AV where
  | undef
  | bool (b : Bool)
  | int (k : IntKind) (n : Int)
  | str (s : List UInt8)
  | ptr (p : Option (Nat × List Nat))
  | slice (tk : Tk) (xs : List AV)
  | eptr (v : AV)
  | mp (r : Option Nat)
  | arr (i : Nat) (p : List Nat) (n : Nat)
  | fn (f : Fn) (first captured : List AV)
  | nilFn
  | lit (x : Value)
  | agg (ps : List AV)
  | dig (d : Dig)
  | tuple (vs : List AV)
  | iface (t : TypeId) (v : AV)
  | nilIface

instance : Inhabited AV := ⟨.undef⟩

mutual
def AV.size : AV → Nat
  | .agg ps => AV.sizes ps
  | .dig _ => 32
  | _ => 1
def AV.sizes : List AV → Nat
  | [] => 0
  | p :: ps => p.size + AV.sizes ps
end

def AV.isAgg : AV → Bool
  | .agg _ | .dig _ => true
  | _ => false

def vAgg : Value → Bool
  | .agg _ => true
  | _ => false

inductive Shape where
  | leaf | dig | node (l : List Shape)

mutual
def AV.shape : AV → Shape
  | .agg ps => .node (AV.shapes ps)
  | .dig _ => .dig
  | _ => .leaf
def AV.shapes : List AV → List Shape
  | [] => []
  | p :: ps => p.shape :: AV.shapes ps
end

mutual
def Shape.size : Shape → Nat
  | .node l => Shape.sizes l
  | .dig => 32
  | .leaf => 1
def Shape.sizes : List Shape → Nat
  | [] => 0
  | p :: ps => p.size + Shape.sizes ps
end

mutual
theorem AV.size_shape : ∀ v : AV, v.shape.size = v.size
  | .agg ps => by simp only [AV.shape, Shape.size, AV.size]; exact AV.sizes_shapes ps
  | .dig _ => rfl
  | .undef | .bool _ | .int _ _ | .str _ | .ptr _ | .slice _ _ | .eptr _ | .mp _ | .arr _ _ _ | .fn _ _ _ | .nilFn | .lit _ | .tuple _ | .iface _ _ | .nilIface => rfl
theorem AV.sizes_shapes : ∀ ps : List AV, Shape.sizes (AV.shapes ps) = AV.sizes ps
  | [] => rfl
  | p :: ps => by simp only [AV.shapes, Shape.sizes, AV.sizes, AV.size_shape p, AV.sizes_shapes ps]
end

theorem AV.shapes_eq_map (ps : List AV) : AV.shapes ps = ps.map AV.shape := by
  induction ps with
  | nil => rfl
  | cons p ps ih => simp [AV.shapes, ih]

/-- How many cells lie ahead of a part. -/
def Shape.off : Shape → List Nat → Option Nat
  | _, [] => some 0
  | .node l, i :: p => (l[i]?).bind fun s => (s.off p).map (Shape.sizes (l.take i) + ·)
  | .dig, [i] => if i < 32 then some i else none
  | _, _ :: _ => none

def AV.at : AV → List Nat → Option AV
  | v, [] => some v
  | .agg ps, i :: p => (ps[i]?).bind fun v => v.at p
  | .dig d, [i] => (d.l[i]?).map fun b => .int .u8 b.toNat
  | _, _ :: _ => none

def Dig.set (d : Dig) (i : Nat) (n : Int) : Dig := ⟨d.l.set i (UInt8.ofNat n.toNat), by simp [d.h]⟩

def AV.setAt : AV → List Nat → AV → AV
  | _, [], x => x
  | .agg ps, i :: p, x => match ps[i]? with
    | some v => .agg (ps.set i (v.setAt p x))
    | none => .agg ps
  | .dig d, [i], .int .u8 n => .dig (d.set i n)
  | v, _ :: _, _ => v

/-- An owner's place: block and offset (none: nil), length, capacity, cells of an element. -/
structure TokE where
  a : Option (Nat × Nat)
  len : Nat
  cap : Nat
  es : Nat

/-- The ghost: memory below `base` is as it was; objects' blocks; of rows: how much of them is seen by anybody; owners. -/
structure G where
  base : Nat
  objs : List (Nat × Shape)
  lim : Nat → Option Nat
  toks : List TokE

def G.below (g : G) (b m : Nat) : Prop := b < g.base ∨ ∃ L, g.lim b = some L ∧ m ≤ L

def rd (w : World) (b o : Nat) (cs : List Value) : Prop :=
  ∃ c e fr, w.heap[b]? = some (.cells c e fr) ∧ ∀ j, j < cs.length → c[o + j]? = cs[j]?

def mkAddr (x : Nat × Nat) : Addr := ⟨x.1, x.2, none⟩
/-- A slice's address: its place; of a slice without room it may be anything. -/
def Ad (ad : Option Addr) (a : Option (Nat × Nat)) (c : Nat) : Prop := ad = a.map mkAddr ∨ (a = none ∧ c = 0)
theorem Ad.some {ad : Option Addr} {x : Nat × Nat} {c : Nat} (h : Ad ad (some x) c) : ad = some (mkAddr x) := by
  rcases h with h | ⟨h, _⟩
  · exact h
  · cases h

def maxL : Nat := 9223372036854775807

def tkOk (g : G) (a : Option (Nat × Nat)) (n c es : Nat) : Tk → Prop
  | .none => True
  | .full => c = n
  | .lit => c = n ∧ ∃ b o L, a = some (b, o) ∧ g.base ≤ b ∧ g.lim b = some L
  | .own t => ∃ e, g.toks[t]? = some e ∧ n ≤ e.len ∧ (n = e.len → e.a = a ∧ e.cap = c) ∧ (n = 0 ∨ es = e.es)

mutual
def relC (g : G) (w : World) : AV → List Value → Prop
  | .undef, cs => ∃ c, cs = [c] ∧ c.oneCell' = true
  | .bool b, cs => cs = [.bool b]
  | .int k n, cs => cs = [.int k n]
  | .str s, cs => cs = [.string ⟨s.toArray⟩] ∧ s.length ≤ maxL
  | .ptr none, cs => cs = [.pointer none]
  | .ptr (some (i, p)), cs => ∃ b sh o, g.objs[i]? = some (b, sh) ∧ sh.off p = some o ∧ cs = [.pointer (some ⟨b, o, none⟩)]
  | .slice tk xs, cs => ∃ ad a c es css, cs = [.slice ad xs.length c] ∧ Ad ad a c ∧ relEs g w es xs css ∧ xs.length ≤ c ∧ c ≤ maxL ∧ (a = none → c = 0) ∧
      (∀ b o, a = some (b, o) → css = [] ∨ (rd w b o css ∧ g.below b (o + css.length))) ∧ tkOk g a xs.length c es tk
  | .eptr v, cs => ∃ b o cv, cs = [.pointer (some ⟨b, o, none⟩)] ∧ relC g w v cv ∧ rd w b o cv ∧ g.below b (o + cv.length)
  | .arr i p n, cs => ∃ b sh o c, g.objs[i]? = some (b, sh) ∧ sh.off p = some o ∧ cs = [.slice (some ⟨b, o, none⟩) n c] ∧ n ≤ c ∧ c ≤ maxL
  | .mp none, cs => cs = [.map none]
  | .mp (some i), cs => ∃ b sh, g.objs[i]? = some (b, sh) ∧ cs = [.map (some b)]
  | .fn f first cap, cs => ∃ a b, cs = [.func f a b] ∧ relVs g w first a.toList ∧ relVs g w cap b.toList
  | .nilFn, cs => cs = [.nilFunc]
  | .lit x, cs => cs = [x] ∧ x.oneCell' = true
  | .agg ps, cs => relPs g w ps cs
  | .dig d, cs => cs = d.l.map fun b => Value.int .u8 b.toNat
  | .tuple _, _ => False
  | .iface t v, cs => ∃ x, cs = [.iface t x] ∧ relC g w v x.cells.toList ∧ v.isAgg = vAgg x
  | .nilIface, cs => cs = [.nilIface]
def relPs (g : G) (w : World) : List AV → List Value → Prop
  | [], cs => cs = []
  | p :: ps, cs => ∃ c1 c2, cs = c1 ++ c2 ∧ relC g w p c1 ∧ relPs g w ps c2
def relEs (g : G) (w : World) (es : Nat) : List AV → List Value → Prop
  | [], cs => cs = []
  | p :: ps, cs => ∃ c1 c2, cs = c1 ++ c2 ∧ c1.length = es ∧ relC g w p c1 ∧ relEs g w es ps c2
def relVs (g : G) (w : World) : List AV → List Value → Prop
  | [], l => l = []
  | v :: vs, l => ∃ x r, l = x :: r ∧ relC g w v x.cells.toList ∧ v.isAgg = vAgg x ∧ relVs g w vs r
end

/-- A value in a slot: of what was forgotten nothing is said. -/
def relV (g : G) (w : World) (v : AV) (x : Value) : Prop :=
  v = .undef ∨ (∃ vs a, v = .tuple vs ∧ x = .tuple a ∧ relVs g w vs a.toList) ∨ (relC g w v x.cells.toList ∧ v.isAgg = vAgg x)

mutual
theorem relC_size {g : G} {w : World} : ∀ {v : AV} {cs : List Value}, relC g w v cs → cs.length = v.size
  | .undef, cs, h => by simp only [relC] at h; obtain ⟨c, rfl, _⟩ := h; rfl
  | .bool _, cs, h | .int _ _, cs, h | .nilFn, cs, h | .nilIface, cs, h => by simp only [relC] at h; subst h; rfl
  | .str _, cs, h => by simp only [relC] at h; obtain ⟨rfl, _⟩ := h; rfl
  | .lit _, cs, h => by simp only [relC] at h; obtain ⟨rfl, _⟩ := h; rfl
  | .ptr none, cs, h => by simp only [relC] at h; subst h; rfl
  | .ptr (some (i, p)), cs, h => by simp only [relC] at h; obtain ⟨_, _, _, _, _, rfl⟩ := h; rfl
  | .slice _ _, cs, h => by simp only [relC] at h; obtain ⟨_, _, _, _, _, rfl, _⟩ := h; rfl
  | .eptr _, cs, h => by simp only [relC] at h; obtain ⟨_, _, _, rfl, _⟩ := h; rfl
  | .mp none, cs, h => by simp only [relC] at h; subst h; rfl
  | .arr _ _ _, cs, h => by simp only [relC] at h; obtain ⟨_, _, _, _, _, _, rfl, _⟩ := h; rfl
  | .mp (some _), cs, h => by simp only [relC] at h; obtain ⟨_, _, _, rfl⟩ := h; rfl
  | .fn _ _ _, cs, h => by simp only [relC] at h; obtain ⟨_, _, rfl, _⟩ := h; rfl
  | .agg ps, cs, h => by simp only [relC] at h; simp only [AV.size]; exact relPs_size h
  | .dig d, cs, h => by simp only [relC] at h; subst h; simp [AV.size, d.h]
  | .tuple _, cs, h => by simp only [relC] at h
  | .iface _ _, cs, h => by simp only [relC] at h; obtain ⟨_, rfl, _⟩ := h; rfl
theorem relPs_size {g : G} {w : World} : ∀ {ps : List AV} {cs : List Value}, relPs g w ps cs → cs.length = AV.sizes ps
  | [], cs, h => by simp only [relPs] at h; subst h; rfl
  | p :: ps, cs, h => by
    simp only [relPs] at h; obtain ⟨c1, c2, rfl, h1, h2⟩ := h
    simp only [List.length_append, AV.sizes, relC_size h1, relPs_size h2]
end

theorem relEs_size {g : G} {w : World} {es : Nat} : ∀ {ps : List AV} {cs : List Value}, relEs g w es ps cs → cs.length = ps.length * es
  | [], cs, h => by simp only [relEs] at h; subst h; simp
  | p :: ps, cs, h => by
    simp only [relEs] at h; obtain ⟨c1, c2, rfl, h1, _, h2⟩ := h
    simp only [List.length_append, List.length_cons, relEs_size h2, h1, Nat.add_mul, Nat.one_mul]; omega

theorem relVs_length {g : G} {w : World} : ∀ {vs : List AV} {l : List Value}, relVs g w vs l → l.length = vs.length
  | [], l, h => by simp only [relVs] at h; subst h; rfl
  | v :: vs, l, h => by simp only [relVs] at h; obtain ⟨x, r, rfl, _, _, h⟩ := h; simp [relVs_length h]

/-- What steps keep: memory below base; what anybody sees of rows; objects' and owners' places. -/
structure Ev (g : G) (w : World) (g' : G) (w' : World) : Prop where
  os : w'.os = w.os
  tape : w'.tape = w.tape
  output : w'.output = w.output
  size : w.heap.size ≤ w'.heap.size
  base : g'.base = g.base
  old : ∀ b, b < g.base → w'.heap[b]? = w.heap[b]?
  objs : ∀ (i : Nat) x, g.objs[i]? = some x → g'.objs[i]? = some x
  lim : ∀ b L, g.lim b = some L → (∃ L', g'.lim b = some L' ∧ L ≤ L') ∧
    ∀ c e fr, w.heap[b]? = some (.cells c e fr) → ∃ c' e' fr', w'.heap[b]? = some (.cells c' e' fr') ∧ ∀ j, j < L → c'[j]? = c[j]?
  toks : ∀ (t : Nat) e, g.toks[t]? = some e → ∃ e', g'.toks[t]? = some e' ∧ e'.es = e.es ∧ e.len ≤ e'.len ∧ (e'.len = e.len → e' = e) ∧ (e'.a = e.a ∨ ∀ b o, e'.a = some (b, o) → w.heap.size ≤ b ∧ o = 0)

theorem Ev.refl (g : G) (w : World) : Ev g w g w :=
  ⟨rfl, rfl, rfl, Nat.le_refl _, rfl, fun _ _ => rfl, fun _ _ h => h, fun b L h => ⟨⟨L, h, Nat.le_refl _⟩, fun c e fr hc => ⟨c, e, fr, hc, fun _ _ => rfl⟩⟩,
    fun t e h => ⟨e, h, rfl, Nat.le_refl _, fun _ => rfl, .inl rfl⟩⟩

theorem Ev.trans {g g' g'' : G} {w w' w'' : World} (h : Ev g w g' w') (k : Ev g' w' g'' w'') : Ev g w g'' w'' where
  os := k.os.trans h.os
  tape := k.tape.trans h.tape
  output := k.output.trans h.output
  size := Nat.le_trans h.size k.size
  base := k.base.trans h.base
  old b hb := (k.old b (by rw [h.base]; exact hb)).trans (h.old b hb)
  objs i x hx := k.objs i x (h.objs i x hx)
  lim b L hL := by
    obtain ⟨⟨L', hL', hle⟩, hc⟩ := h.lim b L hL
    obtain ⟨⟨L'', hL'', hle'⟩, hc'⟩ := k.lim b L' hL'
    refine ⟨⟨L'', hL'', Nat.le_trans hle hle'⟩, fun c e fr hb => ?_⟩
    obtain ⟨c', e', fr', hb', hj⟩ := hc c e fr hb
    obtain ⟨c'', e'', fr'', hb'', hj'⟩ := hc' c' e' fr' hb'
    exact ⟨c'', e'', fr'', hb'', fun j hjl => (hj' j (Nat.lt_of_lt_of_le hjl hle)).trans (hj j hjl)⟩
  toks t e ht := by
    obtain ⟨e', ht', hes, hle, heq, hnew⟩ := h.toks t e ht
    obtain ⟨e'', ht'', hes', hle', heq', hnew'⟩ := k.toks t e' ht'
    refine ⟨e'', ht'', hes'.trans hes, Nat.le_trans hle hle', fun hl => ?_, ?_⟩
    rotate_left
    · rcases hnew' with h1 | h1
      · rw [h1]; exact hnew
      · exact .inr fun b o hb => ⟨Nat.le_trans h.size (h1 b o hb).1, (h1 b o hb).2⟩
    have h1 : e'.len = e.len := by omega
    rw [heq' (by omega), heq h1]

theorem rd_mono {g g' : G} {w w' : World} (h : Ev g w g' w') {b o : Nat} {cs : List Value} (hr : rd w b o cs) (hb : g.below b (o + cs.length)) :
    rd w' b o cs ∧ g'.below b (o + cs.length) := by
  obtain ⟨c, e, fr, hc, hj⟩ := hr
  rcases hb with hb | ⟨L, hL, hle⟩
  · exact ⟨⟨c, e, fr, (h.old b hb).trans hc, hj⟩, .inl (by rw [h.base]; exact hb)⟩
  · obtain ⟨⟨L', hL', hle'⟩, hk⟩ := h.lim b L hL
    obtain ⟨c', e', fr', hc', hj'⟩ := hk c e fr hc
    exact ⟨⟨c', e', fr', hc', fun j hjl => (hj' _ (by omega)).trans (hj j hjl)⟩, .inr ⟨L', hL', by omega⟩⟩

theorem tkOk_mono {g g' : G} {w w' : World} (h : Ev g w g' w') {a : Option (Nat × Nat)} {n c es : Nat} {tk : Tk} (hk : tkOk g a n c es tk) : tkOk g' a n c es tk := by
  cases tk with
  | none => trivial
  | full => exact hk
  | lit =>
    obtain ⟨h1, b, o, L, h2, h3, h4⟩ := hk
    obtain ⟨⟨L', hL', _⟩, _⟩ := h.lim b L h4
    exact ⟨h1, b, o, L', h2, by rw [h.base]; exact h3, hL'⟩
  | own t =>
    obtain ⟨e, he, hn, heq, hes⟩ := hk
    obtain ⟨e', he', hes', hle, hsame, _⟩ := h.toks t e he
    refine ⟨e', he', by omega, fun hl => ?_, hes.imp id (fun x => x.trans hes'.symm)⟩
    have h1 : e'.len = e.len := by omega
    rw [hsame h1]; exact heq (by omega)

mutual
theorem relC_mono {g g' : G} {w w' : World} (h : Ev g w g' w') : ∀ {v : AV} {cs : List Value}, relC g w v cs → relC g' w' v cs
  | .undef, cs, hr | .bool _, cs, hr | .int _ _, cs, hr | .nilFn, cs, hr | .lit _, cs, hr | .nilIface, cs, hr | .str _, cs, hr | .ptr none, cs, hr | .mp none, cs, hr | .dig _, cs, hr => by
    simp only [relC] at hr ⊢; exact hr
  | .ptr (some (i, p)), cs, hr => by
    simp only [relC] at hr ⊢; obtain ⟨b, sh, o, h1, h2, h3⟩ := hr; exact ⟨b, sh, o, h.objs _ _ h1, h2, h3⟩
  | .slice tk xs, cs, hr => by
    simp only [relC] at hr ⊢
    obtain ⟨ad, a, c, es, css, h1, had, h2, h3, h4, h5, h6, h7⟩ := hr
    exact ⟨ad, a, c, es, css, h1, had, relEs_mono h h2, h3, h4, h5, fun b o hab => (h6 b o hab).imp id (fun ⟨x, y⟩ => rd_mono h x y), tkOk_mono h h7⟩
  | .eptr v, cs, hr => by
    simp only [relC] at hr ⊢
    obtain ⟨b, o, cv, h1, h2, h3, h4⟩ := hr
    exact ⟨b, o, cv, h1, relC_mono h h2, rd_mono h h3 h4⟩
  | .mp (some i), cs, hr => by simp only [relC] at hr ⊢; obtain ⟨b, sh, h1, h2⟩ := hr; exact ⟨b, sh, h.objs _ _ h1, h2⟩
  | .arr i p n, cs, hr => by simp only [relC] at hr ⊢; obtain ⟨b, sh, o, c, h1, h2⟩ := hr; exact ⟨b, sh, o, c, h.objs _ _ h1, h2⟩
  | .fn f first cap, cs, hr => by
    simp only [relC] at hr ⊢; obtain ⟨a, b, h1, h2, h3⟩ := hr; exact ⟨a, b, h1, relVs_mono h h2, relVs_mono h h3⟩
  | .agg ps, cs, hr => by simp only [relC] at hr ⊢; exact relPs_mono h hr
  | .tuple vs, cs, hr => by simp only [relC] at hr
  | .iface t v, cs, hr => by simp only [relC] at hr ⊢; obtain ⟨x, h1, h2, h3⟩ := hr; exact ⟨x, h1, relC_mono h h2, h3⟩
theorem relPs_mono {g g' : G} {w w' : World} (h : Ev g w g' w') : ∀ {ps : List AV} {cs : List Value}, relPs g w ps cs → relPs g' w' ps cs
  | [], cs, hr => by simp only [relPs] at hr ⊢; exact hr
  | p :: ps, cs, hr => by simp only [relPs] at hr ⊢; obtain ⟨c1, c2, h1, h2, h3⟩ := hr; exact ⟨c1, c2, h1, relC_mono h h2, relPs_mono h h3⟩
theorem relEs_mono {g g' : G} {w w' : World} (h : Ev g w g' w') {es : Nat} : ∀ {ps : List AV} {cs : List Value}, relEs g w es ps cs → relEs g' w' es ps cs
  | [], cs, hr => by simp only [relEs] at hr ⊢; exact hr
  | p :: ps, cs, hr => by simp only [relEs] at hr ⊢; obtain ⟨c1, c2, h1, hl, h2, h3⟩ := hr; exact ⟨c1, c2, h1, hl, relC_mono h h2, relEs_mono h h3⟩
theorem relVs_mono {g g' : G} {w w' : World} (h : Ev g w g' w') : ∀ {vs : List AV} {l : List Value}, relVs g w vs l → relVs g' w' vs l
  | [], l, hr => by simp only [relVs] at hr ⊢; exact hr
  | v :: vs, l, hr => by simp only [relVs] at hr ⊢; obtain ⟨x, r, h1, h2, h3, h4⟩ := hr; exact ⟨x, r, h1, relC_mono h h2, h3, relVs_mono h h4⟩
end

theorem relV_mono {g g' : G} {w w' : World} (h : Ev g w g' w') {v : AV} {x : Value} (hr : relV g w v x) : relV g' w' v x :=
  hr.imp id (fun hr => hr.imp (fun ⟨vs, a, h1, h2, h3⟩ => ⟨vs, a, h1, h2, relVs_mono h h3⟩) (fun ⟨a, b⟩ => ⟨relC_mono h a, b⟩))

end Go.Aff

