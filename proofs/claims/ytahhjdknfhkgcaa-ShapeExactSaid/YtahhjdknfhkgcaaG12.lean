import Derived.Test.YtahhjdknfhkgcaaG11
import Derived.Test.YtahhjdknfhkgcaaG1

set_option linter.unusedSimpArgs false
set_option linter.unusedVariables false

namespace Go.Aff.L10
open Go.Proofs Go.Aff Go.Aff.L01 Classical
set_option maxRecDepth 20000
attribute [local go_sem] push_app app_app length_app cellAt_app cellAt_app0 set_app set_app0 objs_app objs_app0 List.cons_append List.nil_append List.length_cons List.length_nil List.getElem?_cons_zero List.getElem?_cons_succ List.set_cons_zero List.set_cons_succ List.length_map
attribute [-go_sem] cellAt_new
attribute [-simp] List.length_flatMap
attribute [local go_sem] Try.underlying3 Try.underlying5 Try.underlying9 Try.underlying123
attribute [local go_sem] fits3 fits9 fits31
attribute [local go_sem ↓] blockQ_exit2
def entG {κ β : Type} (f : κ → AV) (g : β → AV) (e : Nat × κ × β) : Nat × AV × AV := (e.1, f e.2.1, g e.2.2)
def entI (e : Nat × Int × Nat) : Nat × AV × AV := entG (AV.int .i64) (fun k => AV.ptr (some (k, []))) e
def entS (e : Nat × List UInt8 × Int) : Nat × AV × AV := entG AV.str (AV.int .i64) e
theorem keyI {k : Int} : keyOk Try.prog 40 3 (.int .i64 k) = true := by simp [keyOk, Try.underlying3]
theorem keyS {k : List UInt8} : keyOk Try.prog 40 9 (.str k) = true := by simp [keyOk, Try.underlying9]
theorem eqI3 {a b : Int} : eqA Try.prog 40 3 (.int .i64 a) (.int .i64 b) = some (a == b) := by simp [eqA, Try.underlying3]
theorem eqS9 {a b : List UInt8} : eqA Try.prog 40 9 (.str a) (.str b) = some (a == b) := by simp [eqA, Try.underlying9]
theorem findI {k : Int} : ∀ {E : List (Nat × Int × Nat)}, findE Try.prog 3 (.int .i64 k) (E.map entI) = some (E.findIdx? fun e => e.2.1 == k)
  | [] => rfl
  | e :: E => by
    have ih := findI (k := k) (E := E)
    simp only [List.map_cons, findE, entI, entG, eqK, keyI, if_true, eqI3]
    rw [List.findIdx?_cons]
    by_cases h : e.2.1 = k
    · simp [h]
    · have h1 : (k == e.2.1) = false := by simp; exact fun e' => h e'.symm
      have h2 : (e.2.1 == k) = false := by simp [h]
      rw [h1, h2]
      change (findE Try.prog 3 (.int .i64 k) (E.map entI)).map _ = _
      rw [ih]; simp
theorem findS {k : List UInt8} : ∀ {E : List (Nat × List UInt8 × Int)}, findE Try.prog 9 (.str k) (E.map entS) = some (E.findIdx? fun e => e.2.1 == k)
  | [] => rfl
  | e :: E => by
    have ih := findS (k := k) (E := E)
    simp only [List.map_cons, findE, entS, entG, eqK, keyS, if_true, eqS9]
    rw [List.findIdx?_cons]
    by_cases h : e.2.1 = k
    · simp [h]
    · have h1 : (k == e.2.1) = false := by simp; exact fun e' => h e'.symm
      have h2 : (e.2.1 == k) = false := by simp [h]
      rw [h1, h2]
      change (findE Try.prog 9 (.str k) (E.map entS)).map _ = _
      rw [ih]; simp
def vnPs (k l : Int) (d : List UInt8) (m : Option Nat) : List AV := [.int .i64 k, .int .i64 l, .str d, .mp m]
section
variable {k l x : Int} {d y : List UInt8} {m q : Option Nat} {v : AV}
theorem vnPs_0 : (vnPs k l d m)[0]? = some (.int .i64 k) := nr rfl
theorem vnPs_1 : (vnPs k l d m)[1]? = some (.int .i64 l) := nr rfl
theorem vnPs_2 : (vnPs k l d m)[2]? = some (.str d) := nr rfl
theorem vnPs_3 : (vnPs k l d m)[3]? = some (.mp m) := nr rfl
theorem vnSet_0 : (vnPs k l d m).set 0 (.int .i64 x) = vnPs x l d m := nr rfl
theorem vnSet_1 : (vnPs k l d m).set 1 (.int .i64 x) = vnPs k x d m := nr rfl
theorem vnSet_2 : (vnPs k l d m).set 2 (.str y) = vnPs k l y m := nr rfl
theorem vnSet_3 : (vnPs k l d m).set 3 (.mp q) = vnPs k l d q := nr rfl
theorem vnAt_0 : partIs Try.prog 179 (vnPs k l d m) 0 v = fits Try.prog 3 v := by rw [partIs_of (o := 0) (T := 3) (by kernel_rfl)]; simp [vnPs, AV.sizes, AV.size]
theorem vnAt_1 : partIs Try.prog 179 (vnPs k l d m) 1 v = fits Try.prog 3 v := by rw [partIs_of (o := 1) (T := 3) (by kernel_rfl)]; simp [vnPs, AV.sizes, AV.size]
theorem vnAt_2 : partIs Try.prog 179 (vnPs k l d m) 2 v = fits Try.prog 9 v := by rw [partIs_of (o := 2) (T := 9) (by kernel_rfl)]; simp [vnPs, AV.sizes, AV.size]
theorem vnAt_3 : partIs Try.prog 179 (vnPs k l d m) 3 v = fits Try.prog 177 v := by rw [partIs_of (o := 3) (T := 177) (by kernel_rfl)]; simp [vnPs, AV.sizes, AV.size]
theorem zero_vn : zeroA Try.prog 12 179 = .agg (vnPs 0 0 [] none) := by kernel_rfl
theorem zt_vn : ZeroOf Try.prog 179 (.agg (vnPs 0 0 [] none)) = True := eq_true ⟨_, _, rfl, rfl, rfl, rfl, rfl⟩
theorem built_vn : Built Try.prog 179 = True := eq_true (by unfold Built; rw [Try.underlying179]; decide +kernel)
theorem fits177 : fits Try.prog 177 (.mp m) = True := by rw [fits_leaf (P := Try.prog) (t := 177) (by kernel_rfl) (by kernel_rfl)]; simp [AV.isAgg, AV.size]
theorem fits172 : fits Try.prog 172 (.mp m) = True := by rw [fits_leaf (P := Try.prog) (t := 172) (by kernel_rfl) (by kernel_rfl)]; simp [AV.isAgg, AV.size]
theorem voAt {x y : Option Nat} : partIs Try.prog 174 [.mp x] 0 (.mp y) = True := by rw [partIs_of (o := 0) (T := 172) (by kernel_rfl)]; simp [AV.sizes, AV.size, fits172]
theorem zero174 : zeroA Try.prog 12 174 = .agg [.mp none] := by kernel_rfl
theorem zt174 : ZeroOf Try.prog 174 (.agg [.mp none]) = True := eq_true ⟨_, _, rfl, rfl, rfl, rfl, rfl⟩
theorem built174 : Built Try.prog 174 = True := eq_true (by unfold Built; rw [Try.underlying174]; decide +kernel)
end
end Go.Aff.L10

namespace Go.Aff.L10
open Go.Proofs Go.Aff Go.Aff.L01 Classical
set_option maxRecDepth 20000
attribute [local go_sem] push_app app_app length_app cellAt_app cellAt_app0 set_app set_app0 objs_app objs_app0 List.cons_append List.nil_append List.length_cons List.length_nil List.getElem?_cons_zero List.getElem?_cons_succ List.set_cons_zero List.set_cons_succ List.length_map
attribute [-go_sem] cellAt_new
attribute [-simp] List.length_flatMap
attribute [local go_sem] Try.underlying9 Try.underlying50
attribute [local go_sem] fits3 fits9 fits31
attribute [local go_sem ↓] blockQ_exit2
attribute [local go_sem] vnPs_0 vnPs_1 vnPs_2 vnPs_3 vnSet_0 vnSet_1 vnSet_2 vnSet_3 vnAt_0 vnAt_1 vnAt_2 vnAt_3 zero_vn zt_vn built_vn fits177 fits172 voAt zero174 zt174 built174 Try.underlying172 Try.underlying174 Try.underlying176 Try.underlying177 Try.underlying179
attribute [local go_sem] ndPs_0 ndAt_0 ndPs_1 ndAt_1 ndPs_2 ndAt_2 ndPs_3 ndAt_3 ndPs_4 ndAt_4 sizes_nd shapes_nd fits_nd zero_nd zt_nd Try.underlying102 Try.underlying52 Try.underlying43 fits43
open Go.Aff.L31
structure VN where
  num : Int
  kind : Int
  data : List UInt8
  ch : List (Nat × List UInt8 × Int)
  ck : Nat
  kn : Nat
  mn : Option Nat
def grOf (Ns : List VN) : List Nd := Ns.map fun n => ⟨n.num, decide (n.kind = 1), n.ch.map (·.2.2)⟩
structure VF (σ0 s : AST) (j mi : Nat) (Ns : List VN) (lk : Int → Nat) (F : List (Nat × AObj)) : Prop where
  x : Ext σ0 s
  o : s.objs[j]? = some (.cells (.agg [.mp (some mi)]))
  m : ∃ (E : List (Nat × Int × Nat)) (ck : Nat), s.objs[mi]? = some (.map (E.map entI) ck) ∧ E.map (·.2) = Ns.map (fun n => (n.num, n.kn)) ∧ (∀ e ∈ E, e.1 < ck) ∧ (E.map (·.1)).Nodup
  n : ∀ n ∈ Ns, s.objs[n.kn]? = some (.cells (.agg (vnPs n.kind (lk n.num : Nat) n.data n.mn)))
  d : ∀ n ∈ Ns, ∀ k, n.mn = some k → s.objs[k]? = some (.map (n.ch.map entS) n.ck)
  c : ∀ n ∈ Ns, (∀ e ∈ n.ch, e.1 < n.ck) ∧ (n.ch.map (·.1)).Nodup ∧ (n.kind = 1 → ∃ k, n.mn = some k) ∧ (n.kind ≠ 1 → n.ch = [])
  nn : (Ns.map (·.num)).Nodup
  kd : (Ns.map (·.kn)).Nodup
  kj : ∀ n ∈ Ns, n.kn ≠ j ∧ n.kn ≠ mi ∧ ∀ p ∈ Ns, p.mn ≠ some n.kn
  ge : ∀ n ∈ Ns, σ0.objs.length ≤ n.kn
  f : ∀ y ∈ F, s.objs[y.1]? = some y.2 ∧ y.1 ≠ j ∧ y.1 ≠ mi ∧ ∀ n ∈ Ns, n.kn ≠ y.1 ∧ n.mn ≠ some y.1
theorem mem_inj {α β : Type} {f : α → β} {l : List α} (h : (l.map f).Nodup) {a b : α} (ha : a ∈ l) (hb : b ∈ l) (e : f a = f b) : a = b := by
  obtain ⟨i, hi⟩ := List.mem_iff_getElem?.1 ha
  obtain ⟨j, hj⟩ := List.mem_iff_getElem?.1 hb
  have h1 : (l.map f)[i]? = some (f a) := by rw [List.getElem?_map, hi]; rfl
  have h2 : (l.map f)[j]? = some (f a) := by rw [List.getElem?_map, hj, e]; rfl
  have := (List.getElem?_inj (List.getElem?_eq_some_iff.1 h1).1 h).1 (h1.trans h2.symm)
  subst this
  rw [hi] at hj; cases hj; rfl
theorem objs_setSV {s : AST} {k : Nat} {o : AObj} (h : k < s.objs.length) : (s.set k o).objs[k]? = some o := by simp only [AST.set]; rw [List.getElem?_set_self h]
theorem objs_setNV {s : AST} {j k : Nat} {o : AObj} (h : j ≠ k) : (s.set j o).objs[k]? = s.objs[k]? := by simp only [AST.set]; rw [List.getElem?_set_ne h]
theorem ext_knownV {a b : AST} {k : Nat} {o : AObj} (h : Ext a b) (ho : a.objs[k]? = some o) : b.objs[k]? = some o := by
  obtain ⟨O, T, rfl⟩ := h
  rw [List.getElem?_append_left (List.getElem?_eq_some_iff.1 ho).1]; exact ho
section
variable {σ0 s s2 : AST} {j mi : Nat} {Ns : List VN} {lk : Int → Nat} {F : List (Nat × AObj)} {K : AV → AST → Prop}
theorem VF.ext (h : VF σ0 s j mi Ns lk F) (e : Ext s s2) : VF σ0 s2 j mi Ns lk F := by
  obtain ⟨E, ck, m1, m2, m3, m4⟩ := h.m
  exact ⟨h.x.trans e, ext_knownV e h.o, ⟨E, ck, ext_knownV e m1, m2, m3, m4⟩, fun n hn => ext_knownV e (h.n n hn), fun n hn k hk => ext_knownV e (h.d n hn k hk), h.c, h.nn, h.kd, h.kj, h.ge, fun y hy => ⟨ext_knownV e (h.f y hy).1, (h.f y hy).2⟩⟩
theorem VF.link (h : VF σ0 s j mi Ns lk F) {p : VN} (hp : p ∈ Ns) : VF σ0 (s.set p.kn (.cells (.agg (vnPs p.kind ((lk p.num + 1 : Nat) : Int) p.data p.mn)))) j mi Ns (more lk [p.num]) F := by
  obtain ⟨E, ck, m1, m2, m3, m4⟩ := h.m
  obtain ⟨k1, k2, k3⟩ := h.kj p hp
  have hl : p.kn < s.objs.length := (List.getElem?_eq_some_iff.1 (h.n p hp)).1
  refine ⟨h.x.set (h.ge p hp), by rw [objs_setNV k1]; exact h.o, ⟨E, ck, by rw [objs_setNV k2]; exact m1, m2, m3, m4⟩, fun n hn => ?_, fun n hn k hk => ?_, h.c, h.nn, h.kd, h.kj, h.ge, fun y hy => ⟨by rw [objs_setNV ((h.f y hy).2.2.2 p hp).1]; exact (h.f y hy).1, (h.f y hy).2⟩⟩
  · by_cases e : n.num = p.num
    · have := mem_inj h.nn hn hp e
      subst this
      rw [objs_setSV hl]; simp [more]
    · have hk : p.kn ≠ n.kn := fun e' => e (by rw [mem_inj h.kd hp hn e'])
      rw [objs_setNV hk, h.n n hn]
      have : (p.num == n.num) = false := by simp; exact fun e' => e e'.symm
      simp [more, List.count_singleton, this]
  · have hk' : p.kn ≠ k := fun e => k3 n hn (by rw [hk, e])
    rw [objs_setNV hk']; exact h.d n hn k hk
theorem VF.more (h : VF σ0 s j mi Ns lk F) {i : Nat} {o : AObj} (ho : s.objs[i]? = some o) (hi : i ≠ j ∧ i ≠ mi ∧ ∀ n ∈ Ns, n.kn ≠ i ∧ n.mn ≠ some i) : VF σ0 s j mi Ns lk ((i, o) :: F) :=
  ⟨h.x, h.o, h.m, h.n, h.d, h.c, h.nn, h.kd, h.kj, h.ge, fun y hy => by
    rcases List.mem_cons.1 hy with rfl | hy
    · exact ⟨ho, hi⟩
    · exact h.f y hy⟩
theorem VF.less {y : Nat × AObj} (h : VF σ0 s j mi Ns lk (y :: F)) : VF σ0 s j mi Ns lk F := ⟨h.x, h.o, h.m, h.n, h.d, h.c, h.nn, h.kd, h.kj, h.ge, fun z hz => h.f z (List.mem_cons_of_mem _ hz)⟩
theorem VF.setF {i : Nat} {o o' : AObj} (h : VF σ0 s j mi Ns lk ((i, o) :: F)) (hi : σ0.objs.length ≤ i) (hF : ∀ y ∈ F, y.1 ≠ i) : VF σ0 (s.set i o') j mi Ns lk ((i, o') :: F) := by
  obtain ⟨E, ck, m1, m2, m3, m4⟩ := h.m
  obtain ⟨f1, f2, f3, f4⟩ := h.f _ (List.mem_cons_self ..)
  dsimp only at f1 f2 f3 f4
  have hl : i < s.objs.length := (List.getElem?_eq_some_iff.1 f1).1
  refine ⟨h.x.set hi, by rw [objs_setNV f2]; exact h.o, ⟨E, ck, by rw [objs_setNV f3]; exact m1, m2, m3, m4⟩, fun n hn => by rw [objs_setNV (Ne.symm (f4 n hn).1)]; exact h.n n hn, fun n hn k hk => ?_, h.c, h.nn, h.kd, h.kj, h.ge, fun y hy => ?_⟩
  · have : i ≠ k := fun e => (f4 n hn).2 (by rw [hk, e])
    rw [objs_setNV this]; exact h.d n hn k hk
  · rcases List.mem_cons.1 hy with rfl | hy
    · exact ⟨objs_setSV hl, f2, f3, f4⟩
    · have := h.f y (List.mem_cons_of_mem _ hy)
      exact ⟨by rw [objs_setNV (Ne.symm (hF y hy))]; exact this.1, this.2⟩
theorem VF.lts (h : VF σ0 s j mi Ns lk F) : j < s.objs.length ∧ mi < s.objs.length ∧ (∀ n ∈ Ns, n.kn < s.objs.length ∧ ∀ k, n.mn = some k → k < s.objs.length) ∧ ∀ y ∈ F, y.1 < s.objs.length := by
  obtain ⟨E, ck, m1, _⟩ := h.m
  have g : ∀ {i : Nat} {o : AObj}, s.objs[i]? = some o → i < s.objs.length := fun h => (List.getElem?_eq_some_iff.1 h).1
  exact ⟨g h.o, g m1, fun n hn => ⟨g (h.n n hn), fun k hk => g (h.d n hn k hk)⟩, fun y hy => g (h.f y hy).1⟩
theorem VF.box (h : VF σ0 s j mi Ns lk F) (o : AObj) : VF σ0 (s.app [o]) j mi Ns lk ((s.objs.length, o) :: F) := by
  obtain ⟨l1, l2, l3, _⟩ := h.lts
  refine (h.ext (Ext.app _ _)).more objs_app0 ⟨by omega, by omega, fun n hn => ⟨?_, fun e => ?_⟩⟩
  · have := (l3 n hn).1; omega
  · have := (l3 n hn).2 _ e; omega
theorem lookV (h : VF σ0 s j mi Ns lk F) {a : Int} {KV : AV → Prop} (h1 : ∀ n ∈ Ns, n.num = a → KV (.ptr (some (n.kn, [])))) (h2 : (∀ n ∈ Ns, n.num ≠ a) → KV (.ptr none)) :
    lookupW Try.prog s 172 (.mp (some mi)) (.int .i64 a) false KV := by
  obtain ⟨E, ck, m1, m2, m3, m4⟩ := h.m
  refine ⟨3, 176, Try.underlying172, keyI, ?_⟩
  simp only [m1]
  refine ⟨_, findI, ?_⟩
  cases hf : E.findIdx? (fun e => e.2.1 == a) with
  | none =>
    have hz : zeroA Try.prog 12 176 = .ptr none := by kernel_rfl
    refine ⟨by rw [hz]; exact ⟨_, _, rfl, rfl, rfl, rfl, rfl⟩, ?_⟩
    rw [hz]
    refine h2 fun n hn e => ?_
    have hm : (n.num, n.kn) ∈ E.map (·.2) := by rw [m2]; exact List.mem_map.2 ⟨n, hn, rfl⟩
    obtain ⟨x, hx, he⟩ := List.mem_map.1 hm
    have := List.findIdx?_eq_none_iff.1 hf x hx
    simp [he, e] at this
  | some i =>
    intro e he
    rw [List.getElem?_map] at he
    obtain ⟨x, hx, rfl⟩ := Option.map_eq_some_iff.1 he
    obtain ⟨hi, hp, _⟩ := List.findIdx?_eq_some_iff_getElem.1 hf
    have hxi : E[i] = x := by have := List.getElem?_eq_getElem hi; rw [hx] at this; exact (Option.some.inj this).symm
    rw [hxi] at hp
    have hm : x.2 ∈ Ns.map (fun n => (n.num, n.kn)) := by rw [← m2]; exact List.mem_map.2 ⟨x, List.mem_of_getElem? hx, rfl⟩
    obtain ⟨n, hn, en⟩ := List.mem_map.1 hm
    have := h1 n hn (by rw [show n.num = x.2.1 by rw [← en]]; simpa using hp)
    rw [show n.kn = x.2.2 by rw [← en]] at this
    exact this
theorem fnd_of (h : (Ns.map (·.num)).Nodup) {n : VN} (hn : n ∈ Ns) : fnd (grOf Ns) n.num = some ⟨n.num, decide (n.kind = 1), n.ch.map (·.2.2)⟩ := by
  unfold fnd grOf
  rw [List.find?_map]
  cases hf : Ns.find? ((fun x : Nd => decide (x.num = n.num)) ∘ fun n => ⟨n.num, decide (n.kind = 1), n.ch.map (·.2.2)⟩) with
  | none =>
    have := List.find?_eq_none.1 hf n hn
    simp at this
  | some p =>
    have hp := List.mem_of_find?_eq_some hf
    have he := List.find?_some hf
    simp at he
    rw [mem_inj h hp hn he]; rfl
theorem fnd_no {a : Int} (h : ∀ n ∈ Ns, n.num ≠ a) : fnd (grOf Ns) a = none := by
  unfold fnd grOf
  rw [List.find?_eq_none]
  intro x hx
  obtain ⟨n, hn, rfl⟩ := List.mem_map.1 hx
  simpa using h n hn
end
section
variable {σ0 : AST} {j mi : Nat} {Ns : List VN}
theorem kids_of (h : (Ns.map (·.num)).Nodup) {n : VN} (hn : n ∈ Ns) : kids (grOf Ns) n.num = n.ch.map (·.2.2) := by unfold kids; rw [fnd_of h hn]
theorem isD_of (h : (Ns.map (·.num)).Nodup) {n : VN} (hn : n ∈ Ns) : L31.isD (grOf Ns) n.num = decide (n.kind = 1) := by unfold L31.isD; rw [fnd_of h hn]
theorem kids_le (h : (Ns.map (·.num)).Nodup) (hch : ∀ n ∈ Ns, n.ch.length ≤ 80) (a : Int) : (kids (grOf Ns) a).length ≤ 80 := by
  by_cases e : ∃ n ∈ Ns, n.num = a
  · obtain ⟨n, hn, rfl⟩ := e
    rw [kids_of h hn, List.length_map]; exact hch n hn
  · have : fnd (grOf Ns) a = none := fnd_no fun n hn e' => e ⟨n, hn, e'⟩
    unfold kids; rw [this]; simp
def kc (D : List (Nat × List UInt8 × Int)) : List Int := D.map (·.2.2)
theorem reach_c (hch : ∀ n ∈ Ns, n.ch.length ≤ 80) : ∀ (r : Nat), r ≤ 6 → ∀ {s : AST} {lk : Int → Nat} {F : List (Nat × AObj)}, VF σ0 s j mi Ns lk F → (∀ x, lk x + 81 ^ r ≤ 1000000000000000) → ∀ {p : VN}, p ∈ Ns → p.kind = 1 → ∀ {K : AV → AST → Prop},
    (∀ s', Cond (grOf Ns) r p.num lk → VF σ0 s' j mi Ns (more lk (U (grOf Ns) r p.num)) F → K (.bool true) s') → (∀ s', ¬ Cond (grOf Ns) r p.num lk → Ext σ0 s' → K (.bool false) s') →
    TCalls Try.prog 104 [.ptr (some (j, [])), .int .i64 p.num, .int .i64 (6 - (r : Int))] s K := by
  intro r
  induction r with
  | zero =>
    intro hr s lk F hv hb p hp hk K hT hF
    obtain ⟨c1, c2, c3, c4⟩ := hv.c p hp
    obtain ⟨k, hmn⟩ := c3 hk
    have hj := cellAt_known hv.o
    have hn := hv.n p hp
    rw [hmn] at hn
    have cn := cellAt_known hn
    have hm := hv.d p hp k hmn
    have hkids := kids_of hv.nn hp
    refine tcalls_walk Try.f104 _ [.tmp 6] Try.func104 rfl rfl rfl mixed (Nat.le_of_ble_eq_true rfl) rfl fun hlen => ?_
    repeat' (first | (simp -dsimp only [↓reduceIte, go_sem, hj]) | (refine arr_intro fun _ => ?_) | (refine later_intro ⟨keeps_nil, ?_⟩) | (refine later_intro ⟨keeps_refl, ?_⟩) | (with_reducible refine keeps_go ?_ ?_; focus (first | (simp [keeps_cons, keeps_none, objs_app, objs_app0]; done) | (simp only [keeps_cons, keeps_none, objs_app0, objs_app, and_true]; first | rfl | exact ⟨rfl, rfl⟩ | exact ⟨rfl, rfl, rfl⟩))) | (with_reducible refine (And.intro (a := keeps _ _ _) ?_ ?_); focus (first | (simp [keeps_cons, keeps_none, objs_app, objs_app0]; done) | (simp only [keeps_cons, keeps_none, objs_app0, objs_app, and_true]; first | rfl | exact ⟨rfl, rfl⟩ | exact ⟨rfl, rfl, rfl⟩))) | (refine both_ways ?_ ?_) | (rw [wrap_i64 (by omega) (by omega)]) | (refine guardV_split (fun h => ?_) (fun h => ?_) <;> (try rw [h]) <;> (try simp at h) <;> (try (exfalso; omega))) | ((refine lookV hv (fun n hn e => ?_) (fun hno => absurd rfl (hno p hp)))))
    obtain rfl : p = n := (mem_inj hv.nn hn hp e).symm
    repeat' (first | (simp -dsimp only [↓reduceIte, go_sem, hj, cn]) | (refine arr_intro fun _ => ?_) | (refine later_intro ⟨keeps_nil, ?_⟩) | (refine later_intro ⟨keeps_refl, ?_⟩) | (with_reducible refine keeps_go ?_ ?_; focus (first | (simp [keeps_cons, keeps_none, objs_app, objs_app0]; done) | (simp only [keeps_cons, keeps_none, objs_app0, objs_app, and_true]; first | rfl | exact ⟨rfl, rfl⟩ | exact ⟨rfl, rfl, rfl⟩))) | (with_reducible refine (And.intro (a := keeps _ _ _) ?_ ?_); focus (first | (simp [keeps_cons, keeps_none, objs_app, objs_app0]; done) | (simp only [keeps_cons, keeps_none, objs_app0, objs_app, and_true]; first | rfl | exact ⟨rfl, rfl⟩ | exact ⟨rfl, rfl, rfl⟩))) | (refine both_ways ?_ ?_) | (rw [wrap_i64 (by omega) (by omega)]) | (refine guardV_split (fun h => ?_) (fun h => ?_) <;> (try rw [h]) <;> (try simp at h) <;> (try (exfalso; omega))))
    refine ⟨⟨9, 3, Try.underlying177⟩, ?_⟩
    simp only [hm]
    intro l b
    repeat' (first | (simp -dsimp only [↓reduceIte, go_sem]) | (refine arr_intro fun _ => ?_) | (refine later_intro ⟨keeps_nil, ?_⟩) | (refine later_intro ⟨keeps_refl, ?_⟩) | (with_reducible refine keeps_go ?_ ?_; focus (first | (simp [keeps_cons, keeps_none, objs_app, objs_app0]; done) | (simp only [keeps_cons, keeps_none, objs_app0, objs_app, and_true]; first | rfl | exact ⟨rfl, rfl⟩ | exact ⟨rfl, rfl, rfl⟩))) | (with_reducible refine (And.intro (a := keeps _ _ _) ?_ ?_); focus (first | (simp [keeps_cons, keeps_none, objs_app, objs_app0]; done) | (simp only [keeps_cons, keeps_none, objs_app0, objs_app, and_true]; first | rfl | exact ⟨rfl, rfl⟩ | exact ⟨rfl, rfl, rfl⟩))) | (refine both_ways ?_ ?_) | (rw [wrap_i64 (by omega) (by omega)]) | (refine guardV_split (fun h => ?_) (fun h => ?_) <;> (try rw [h]) <;> (try simp at h) <;> (try (exfalso; omega))))
    have hbx := hv.box (iterO l b k p.ck #[] p.ck)
    have hl4 := hv.lts
    have hle : σ0.objs.length ≤ s.objs.length := by obtain ⟨O, T, rfl⟩ := hv.x; simp
    generalize hk0 : s.objs.length = k0 at *
    generalize s.app [iterO l b k p.ck #[] p.ck] = s0 at hbx ⊢
    refine awp_rounds (fun (i : Nat) τ s' => VF σ0 s' j mi Ns lk ((k0, iterO l b k p.ck #[] p.ck) :: F) ∧ τ 0 = .ptr (some (j, [])) ∧ τ 2 = .int .i64 (6 - ((0 : Nat) : Int)) ∧ τ 19 = .ptr (some (k0, []))) (fun i => 1 - i) 0 ?_ ?_
    · refine ⟨hbx, ?_, ?_, ?_⟩ <;> (try simp only [go_sem]) <;> (try rfl)
    · rintro i τ s' ⟨hV, t0, t2, t19⟩
      have hit := (hV.f _ (List.mem_cons_self ..)).1
      dsimp only at hit
      have hm' := hV.d p hp k hmn
      repeat' (first | (simp -dsimp only [↓reduceIte, go_sem, t0, t2, t19]) | (refine arr_intro fun _ => ?_) | (refine later_intro ⟨keeps_nil, ?_⟩) | (refine later_intro ⟨keeps_refl, ?_⟩) | (with_reducible refine keeps_go ?_ ?_; focus (first | (simp [keeps_cons, keeps_none, objs_app, objs_app0]; done) | (simp only [keeps_cons, keeps_none, objs_app0, objs_app, and_true]; first | rfl | exact ⟨rfl, rfl⟩ | exact ⟨rfl, rfl, rfl⟩))) | (with_reducible refine (And.intro (a := keeps _ _ _) ?_ ?_); focus (first | (simp [keeps_cons, keeps_none, objs_app, objs_app0]; done) | (simp only [keeps_cons, keeps_none, objs_app0, objs_app, and_true]; first | rfl | exact ⟨rfl, rfl⟩ | exact ⟨rfl, rfl, rfl⟩))) | (refine both_ways ?_ ?_) | (rw [wrap_i64 (by omega) (by omega)]) | (refine guardV_split (fun h => ?_) (fun h => ?_) <;> (try rw [h]) <;> (try simp at h) <;> (try (exfalso; omega))))
      refine ⟨rfl, k0, l, b, k, p.ck, _, p.ck, _, _, rfl, hit, hm', ?_, Nat.le_refl _, fun e he hne => ?_, fun hall => ?_⟩
      · intro e he
        obtain ⟨x, hx, rfl⟩ := List.mem_map.1 he
        exact c1 x hx
      · obtain ⟨e, he0, rfl⟩ := List.mem_map.1 he
        have hfail : ¬ Cond (grOf Ns) 0 p.num lk := by
          rw [cond_zero, hkids]
          intro hc
          have := List.map_eq_nil_iff.1 hc
          rw [this] at he0; cases he0
        have hV2 := hV.setF (o' := iterO l b k p.ck (#[].push (entS e).1) p.ck) hle (fun y hy => by have := hl4.2.2.2 y hy; omega)
        generalize hs2 : s'.set k0 (iterO l b k p.ck (#[].push (entS e).1) p.ck) = s2 at hV2
        have oit := (hV2.f _ (List.mem_cons_self ..)).1
        dsimp only at oit
        have om := hV2.d p hp k hmn
        have hj2 := cellAt_known hV2.o
        repeat' (first | (simp -dsimp only [↓reduceIte, go_sem, t0, t2, t19, hs2]) | (refine arr_intro fun _ => ?_) | (refine later_intro ⟨keeps_nil, ?_⟩) | (refine later_intro ⟨keeps_refl, ?_⟩) | (with_reducible refine keeps_go ?_ ?_; focus (first | (simp [keeps_cons, keeps_none, objs_app, objs_app0]; done) | (simp only [keeps_cons, keeps_none, objs_app0, objs_app, and_true]; first | rfl | exact ⟨rfl, rfl⟩ | exact ⟨rfl, rfl, rfl⟩))) | (with_reducible refine (And.intro (a := keeps _ _ _) ?_ ?_); focus (first | (simp [keeps_cons, keeps_none, objs_app, objs_app0]; done) | (simp only [keeps_cons, keeps_none, objs_app0, objs_app, and_true]; first | rfl | exact ⟨rfl, rfl⟩ | exact ⟨rfl, rfl, rfl⟩))) | (refine both_ways ?_ ?_) | (rw [wrap_i64 (by omega) (by omega)]) | (refine guardV_split (fun h => ?_) (fun h => ?_) <;> (try rw [h]) <;> (try simp at h) <;> (try (exfalso; omega))))
        refine ⟨k0, l, b, k, p.ck, #[], _, entS e, p.ck, rfl, oit, om, he, ?_⟩
        have k2 : (entS e).2.2 = .int .i64 e.2.2 := rfl
        repeat' (first | (simp -dsimp only [↓reduceIte, go_sem, hj2, t0, t2, t19, k2]) | (refine arr_intro fun _ => ?_) | (refine later_intro ⟨keeps_nil, ?_⟩) | (refine later_intro ⟨keeps_refl, ?_⟩) | (with_reducible refine keeps_go ?_ ?_; focus (first | (simp [keeps_cons, keeps_none, objs_app, objs_app0]; done) | (simp only [keeps_cons, keeps_none, objs_app0, objs_app, and_true]; first | rfl | exact ⟨rfl, rfl⟩ | exact ⟨rfl, rfl, rfl⟩))) | (with_reducible refine (And.intro (a := keeps _ _ _) ?_ ?_); focus (first | (simp [keeps_cons, keeps_none, objs_app, objs_app0]; done) | (simp only [keeps_cons, keeps_none, objs_app0, objs_app, and_true]; first | rfl | exact ⟨rfl, rfl⟩ | exact ⟨rfl, rfl, rfl⟩))) | (refine both_ways ?_ ?_) | (rw [wrap_i64 (by omega) (by omega)]) | (refine guardV_split (fun h => ?_) (fun h => ?_) <;> (try rw [h]) <;> (try simp at h) <;> (try (exfalso; omega))) | ((refine lookV hV2 (fun n hn2 en => ?_) (fun hno => ?_))))
        all_goals exact hF _ hfail hV2.x
      · repeat' (first | (simp -dsimp only [↓reduceIte, go_sem, t0, t2, t19]) | (refine arr_intro fun _ => ?_) | (refine later_intro ⟨keeps_nil, ?_⟩) | (refine later_intro ⟨keeps_refl, ?_⟩) | (with_reducible refine keeps_go ?_ ?_; focus (first | (simp [keeps_cons, keeps_none, objs_app, objs_app0]; done) | (simp only [keeps_cons, keeps_none, objs_app0, objs_app, and_true]; first | rfl | exact ⟨rfl, rfl⟩ | exact ⟨rfl, rfl, rfl⟩))) | (with_reducible refine (And.intro (a := keeps _ _ _) ?_ ?_); focus (first | (simp [keeps_cons, keeps_none, objs_app, objs_app0]; done) | (simp only [keeps_cons, keeps_none, objs_app0, objs_app, and_true]; first | rfl | exact ⟨rfl, rfl⟩ | exact ⟨rfl, rfl, rfl⟩))) | (refine both_ways ?_ ?_) | (rw [wrap_i64 (by omega) (by omega)]) | (refine guardV_split (fun h => ?_) (fun h => ?_) <;> (try rw [h]) <;> (try simp at h) <;> (try (exfalso; omega))))
        have hz : p.ch = [] := by
          cases hc : p.ch with
          | nil => rfl
          | cons e C =>
            have := hall (entS e) (by rw [hc]; exact List.mem_map_of_mem (List.mem_cons_self ..))
            simp at this
        refine hT _ (cond_zero.2 (by rw [hkids, hz]; rfl)) ?_
        have e1 : more lk (U (grOf Ns) 0 p.num) = lk := by rw [U, more_nil]
        rw [e1]
        exact hV.less
  | succ r ih =>
    intro hr s lk F hv hb p hp hk K hT hF
    obtain ⟨c1, c2, c3, c4⟩ := hv.c p hp
    obtain ⟨k, hmn⟩ := c3 hk
    have hj := cellAt_known hv.o
    have hn := hv.n p hp
    rw [hmn] at hn
    have cn := cellAt_known hn
    have hm := hv.d p hp k hmn
    have hkids := kids_of hv.nn hp
    have hul := u_len (G := grOf Ns) (kids_le hv.nn hch) r
    have hvl := v_len (G := grOf Ns) hul
    have hpw : 81 ^ (r + 1) = 81 ^ r * 81 := Nat.pow_succ ..
    have hp1 : 0 < 81 ^ r := Nat.pow_pos (by decide)
    have hc80 := hch p hp
    refine tcalls_walk Try.f104 _ [.tmp 6] Try.func104 rfl rfl rfl mixed (Nat.le_of_ble_eq_true rfl) rfl fun hlen => ?_
    repeat' (first | (simp -dsimp only [↓reduceIte, go_sem, hj]) | (refine arr_intro fun _ => ?_) | (refine later_intro ⟨keeps_nil, ?_⟩) | (refine later_intro ⟨keeps_refl, ?_⟩) | (with_reducible refine keeps_go ?_ ?_; focus (first | (simp [keeps_cons, keeps_none, objs_app, objs_app0]; done) | (simp only [keeps_cons, keeps_none, objs_app0, objs_app, and_true]; first | rfl | exact ⟨rfl, rfl⟩ | exact ⟨rfl, rfl, rfl⟩))) | (with_reducible refine (And.intro (a := keeps _ _ _) ?_ ?_); focus (first | (simp [keeps_cons, keeps_none, objs_app, objs_app0]; done) | (simp only [keeps_cons, keeps_none, objs_app0, objs_app, and_true]; first | rfl | exact ⟨rfl, rfl⟩ | exact ⟨rfl, rfl, rfl⟩))) | (refine both_ways ?_ ?_) | (rw [wrap_i64 (by omega) (by omega)]) | (refine guardV_split (fun h => ?_) (fun h => ?_) <;> (try rw [h]) <;> (try simp at h) <;> (try (exfalso; omega))) | ((refine lookV hv (fun n hn e => ?_) (fun hno => absurd rfl (hno p hp)))))
    obtain rfl : p = n := (mem_inj hv.nn hn hp e).symm
    repeat' (first | (simp -dsimp only [↓reduceIte, go_sem, hj, cn]) | (refine arr_intro fun _ => ?_) | (refine later_intro ⟨keeps_nil, ?_⟩) | (refine later_intro ⟨keeps_refl, ?_⟩) | (with_reducible refine keeps_go ?_ ?_; focus (first | (simp [keeps_cons, keeps_none, objs_app, objs_app0]; done) | (simp only [keeps_cons, keeps_none, objs_app0, objs_app, and_true]; first | rfl | exact ⟨rfl, rfl⟩ | exact ⟨rfl, rfl, rfl⟩))) | (with_reducible refine (And.intro (a := keeps _ _ _) ?_ ?_); focus (first | (simp [keeps_cons, keeps_none, objs_app, objs_app0]; done) | (simp only [keeps_cons, keeps_none, objs_app0, objs_app, and_true]; first | rfl | exact ⟨rfl, rfl⟩ | exact ⟨rfl, rfl, rfl⟩))) | (refine both_ways ?_ ?_) | (rw [wrap_i64 (by omega) (by omega)]) | (refine guardV_split (fun h => ?_) (fun h => ?_) <;> (try rw [h]) <;> (try simp at h) <;> (try (exfalso; omega))))
    refine ⟨⟨9, 3, Try.underlying177⟩, ?_⟩
    simp only [hm]
    intro l b
    repeat' (first | (simp -dsimp only [↓reduceIte, go_sem]) | (refine arr_intro fun _ => ?_) | (refine later_intro ⟨keeps_nil, ?_⟩) | (refine later_intro ⟨keeps_refl, ?_⟩) | (with_reducible refine keeps_go ?_ ?_; focus (first | (simp [keeps_cons, keeps_none, objs_app, objs_app0]; done) | (simp only [keeps_cons, keeps_none, objs_app0, objs_app, and_true]; first | rfl | exact ⟨rfl, rfl⟩ | exact ⟨rfl, rfl, rfl⟩))) | (with_reducible refine (And.intro (a := keeps _ _ _) ?_ ?_); focus (first | (simp [keeps_cons, keeps_none, objs_app, objs_app0]; done) | (simp only [keeps_cons, keeps_none, objs_app0, objs_app, and_true]; first | rfl | exact ⟨rfl, rfl⟩ | exact ⟨rfl, rfl, rfl⟩))) | (refine both_ways ?_ ?_) | (rw [wrap_i64 (by omega) (by omega)]) | (refine guardV_split (fun h => ?_) (fun h => ?_) <;> (try rw [h]) <;> (try simp at h) <;> (try (exfalso; omega))))
    have hbx := hv.box (iterO l b k p.ck #[] p.ck)
    have hl4 := hv.lts
    have hle : σ0.objs.length ≤ s.objs.length := by obtain ⟨O, T, rfl⟩ := hv.x; simp
    generalize hk0 : s.objs.length = k0 at *
    generalize s.app [iterO l b k p.ck #[] p.ck] = s0 at hbx ⊢
    refine awp_rounds (fun (i : Nat) τ s' => ∃ (D : List (Nat × List UInt8 × Int)) (last : Nat), D.length = i ∧ Seen p.ch D ∧ p.ck ≤ last ∧ VF σ0 s' j mi Ns (more lk (V (grOf Ns) r (kc D))) ((k0, iterO l b k p.ck (D.map (·.1)).toArray last) :: F) ∧ L31.Part (grOf Ns) r (kc D) lk ∧ τ 0 = .ptr (some (j, [])) ∧ τ 2 = .int .i64 (6 - ((r + 1 : Nat) : Int)) ∧ τ 19 = .ptr (some (k0, []))) (fun i => p.ch.length - i) 0 ?_ ?_
    · refine ⟨[], p.ck, rfl, Seen.nil, Nat.le_refl _, ?_, part_nil, ?_, ?_, ?_⟩ <;> (try simp only [go_sem]) <;> (try rfl)
      have : more lk (V (grOf Ns) r (kc [])) = lk := by simp [kc, V, more_nil]
      rw [this]; exact hbx
    · rintro i τ s' ⟨D, last, hDl, hD, hla, hV, hP, t0, t2, t19⟩
      have hit := (hV.f _ (List.mem_cons_self ..)).1
      dsimp only at hit
      have hm' := hV.d p hp k hmn
      repeat' (first | (simp -dsimp only [↓reduceIte, go_sem, t0, t2, t19]) | (refine arr_intro fun _ => ?_) | (refine later_intro ⟨keeps_nil, ?_⟩) | (refine later_intro ⟨keeps_refl, ?_⟩) | (with_reducible refine keeps_go ?_ ?_; focus (first | (simp [keeps_cons, keeps_none, objs_app, objs_app0]; done) | (simp only [keeps_cons, keeps_none, objs_app0, objs_app, and_true]; first | rfl | exact ⟨rfl, rfl⟩ | exact ⟨rfl, rfl, rfl⟩))) | (with_reducible refine (And.intro (a := keeps _ _ _) ?_ ?_); focus (first | (simp [keeps_cons, keeps_none, objs_app, objs_app0]; done) | (simp only [keeps_cons, keeps_none, objs_app0, objs_app, and_true]; first | rfl | exact ⟨rfl, rfl⟩ | exact ⟨rfl, rfl, rfl⟩))) | (refine both_ways ?_ ?_) | (rw [wrap_i64 (by omega) (by omega)]) | (refine guardV_split (fun h => ?_) (fun h => ?_) <;> (try rw [h]) <;> (try simp at h) <;> (try (exfalso; omega))))
      refine ⟨rfl, k0, l, b, k, p.ck, _, last, _, _, rfl, hit, hm', ?_, hla, fun e he hne => ?_, fun hall => ?_⟩
      · intro e he
        obtain ⟨x, hx, rfl⟩ := List.mem_map.1 he
        exact c1 x hx
      · obtain ⟨e, he0, rfl⟩ := List.mem_map.1 he
        have hne' : ¬ e.1 ∈ D.map (·.1) := by simpa [entS, entG] using hne
        have hD' := hD.add he0 hne'
        have hl2 := hD'.len c2
        have hV2 := hV.setF (o' := iterO l b k p.ck ((D.map (·.1)).toArray.push (entS e).1) p.ck) hle (fun y hy => by have := hl4.2.2.2 y hy; omega)
        generalize hs2 : s'.set k0 (iterO l b k p.ck ((D.map (·.1)).toArray.push (entS e).1) p.ck) = s2 at hV2
        have oit := (hV2.f _ (List.mem_cons_self ..)).1
        dsimp only at oit
        have om := hV2.d p hp k hmn
        have hj2 := cellAt_known hV2.o
        repeat' (first | (simp -dsimp only [↓reduceIte, go_sem, t0, t2, t19, hs2]) | (refine arr_intro fun _ => ?_) | (refine later_intro ⟨keeps_nil, ?_⟩) | (refine later_intro ⟨keeps_refl, ?_⟩) | (with_reducible refine keeps_go ?_ ?_; focus (first | (simp [keeps_cons, keeps_none, objs_app, objs_app0]; done) | (simp only [keeps_cons, keeps_none, objs_app0, objs_app, and_true]; first | rfl | exact ⟨rfl, rfl⟩ | exact ⟨rfl, rfl, rfl⟩))) | (with_reducible refine (And.intro (a := keeps _ _ _) ?_ ?_); focus (first | (simp [keeps_cons, keeps_none, objs_app, objs_app0]; done) | (simp only [keeps_cons, keeps_none, objs_app0, objs_app, and_true]; first | rfl | exact ⟨rfl, rfl⟩ | exact ⟨rfl, rfl, rfl⟩))) | (refine both_ways ?_ ?_) | (rw [wrap_i64 (by omega) (by omega)]) | (refine guardV_split (fun h => ?_) (fun h => ?_) <;> (try rw [h]) <;> (try simp at h) <;> (try (exfalso; omega))))
        refine ⟨k0, l, b, k, p.ck, (D.map (·.1)).toArray, _, entS e, p.ck, rfl, oit, om, he, ?_⟩
        have k2 : (entS e).2.2 = .int .i64 e.2.2 := rfl
        have hfail : ¬ L31.Part (grOf Ns) r (kc D ++ [e.2.2]) lk → ¬ Cond (grOf Ns) (r + 1) p.num lk := by
          intro hnp hc
          obtain ⟨R, hR⟩ := hD'.rest c2
          have hc' : L31.Part (grOf Ns) r (kids (grOf Ns) p.num) lk := hc
          rw [hkids] at hc'
          have hp2 := (part_perm (hR.map (·.2.2))).2 hc'
          rw [List.map_append, List.map_append] at hp2
          exact hnp (part_left hp2)
        repeat' (first | (simp -dsimp only [↓reduceIte, go_sem, hj2, t0, t2, t19, k2]) | (refine arr_intro fun _ => ?_) | (refine later_intro ⟨keeps_nil, ?_⟩) | (refine later_intro ⟨keeps_refl, ?_⟩) | (with_reducible refine keeps_go ?_ ?_; focus (first | (simp [keeps_cons, keeps_none, objs_app, objs_app0]; done) | (simp only [keeps_cons, keeps_none, objs_app0, objs_app, and_true]; first | rfl | exact ⟨rfl, rfl⟩ | exact ⟨rfl, rfl, rfl⟩))) | (with_reducible refine (And.intro (a := keeps _ _ _) ?_ ?_); focus (first | (simp [keeps_cons, keeps_none, objs_app, objs_app0]; done) | (simp only [keeps_cons, keeps_none, objs_app0, objs_app, and_true]; first | rfl | exact ⟨rfl, rfl⟩ | exact ⟨rfl, rfl, rfl⟩))) | (refine both_ways ?_ ?_) | (rw [wrap_i64 (by omega) (by omega)]) | (refine guardV_split (fun h => ?_) (fun h => ?_) <;> (try rw [h]) <;> (try simp at h) <;> (try (exfalso; omega))) | ((refine lookV hV2 (fun n hn2 en => ?_) (fun hno => ?_))))
        · have hn3 := hV2.n n hn2
          have cn3 := cellAt_known hn3
          have hfn := fnd_of hv.nn hn2
          have hml := more_le (l := lk) (xs := V (grOf Ns) r (kc D)) n.num
          have hvl2 := hvl (kc D)
          have hkl : (kc D).length = D.length := List.length_map ..
          rw [List.length_append] at hl2
          simp only [List.length_singleton] at hl2
          have hDm : (kc D).length * 81 ^ r ≤ 79 * 81 ^ r := Nat.mul_le_mul_right _ (by omega)
          have hbn := hb n.num
          have hwr : IntKind.i64.wrap (((more lk (V (grOf Ns) r (kc D)) n.num : Nat) : Int) + 1) = ((more lk (V (grOf Ns) r (kc D)) n.num + 1 : Nat) : Int) := by
            rw [wrap64] <;> omega
          have hV3 := hV2.link hn2
          repeat' (first | (simp -dsimp only [↓reduceIte, go_sem, t0, t2, t19, k2, cn3, hwr, hn3]) | (refine arr_intro fun _ => ?_) | (refine later_intro ⟨keeps_nil, ?_⟩) | (refine later_intro ⟨keeps_refl, ?_⟩) | (with_reducible refine keeps_go ?_ ?_; focus (first | (simp [keeps_cons, keeps_none, objs_app, objs_app0]; done) | (simp only [keeps_cons, keeps_none, objs_app0, objs_app, and_true]; first | rfl | exact ⟨rfl, rfl⟩ | exact ⟨rfl, rfl, rfl⟩))) | (with_reducible refine (And.intro (a := keeps _ _ _) ?_ ?_); focus (first | (simp [keeps_cons, keeps_none, objs_app, objs_app0]; done) | (simp only [keeps_cons, keeps_none, objs_app0, objs_app, and_true]; first | rfl | exact ⟨rfl, rfl⟩ | exact ⟨rfl, rfl, rfl⟩))) | (refine both_ways ?_ ?_) | (rw [wrap_i64 (by omega) (by omega)]) | (refine guardV_split (fun h => ?_) (fun h => ?_) <;> (try rw [h]) <;> (try simp at h) <;> (try (exfalso; omega))))
          have hn4 := hV3.n n hn2
          have hwn : ((more (more lk (V (grOf Ns) r (kc D))) [n.num] n.num : Nat) : Int) = ((more lk (V (grOf Ns) r (kc D)) n.num + 1 : Nat) : Int) := by simp [more]
          rw [hwn] at hn4
          have cn4 := cellAt_known hn4
          generalize s2.set n.kn _ = s3 at hV3 hn4 cn4 ⊢
          have hita : (D.map (·.1)).toArray.push (entS e).1 = ((D ++ [e]).map (·.1)).toArray := by simp [entS, entG]
          rw [hita] at hV3
          have hkc : kc (D ++ [e]) = kc D ++ [n.num] := by rw [en]; simp [kc]
          rw [← en] at hfail
          have hne1 : n.num ≠ 1 := by rw [en]; assumption
          have hsm : (fnd (grOf Ns) n.num).isSome := by rw [hfn]; rfl
          have hmm : more lk (V (grOf Ns) r (kc D) ++ [n.num]) n.num = more lk (V (grOf Ns) r (kc D)) n.num + 1 := by simp [more]; omega
          repeat' (first | (simp -dsimp only [↓reduceIte, go_sem, t0, t2, t19, k2, cn4]) | (refine arr_intro fun _ => ?_) | (refine later_intro ⟨keeps_nil, ?_⟩) | (refine later_intro ⟨keeps_refl, ?_⟩) | (with_reducible refine keeps_go ?_ ?_; focus (first | (simp [keeps_cons, keeps_none, objs_app, objs_app0]; done) | (simp only [keeps_cons, keeps_none, objs_app0, objs_app, and_true]; first | rfl | exact ⟨rfl, rfl⟩ | exact ⟨rfl, rfl, rfl⟩))) | (with_reducible refine (And.intro (a := keeps _ _ _) ?_ ?_); focus (first | (simp [keeps_cons, keeps_none, objs_app, objs_app0]; done) | (simp only [keeps_cons, keeps_none, objs_app0, objs_app, and_true]; first | rfl | exact ⟨rfl, rfl⟩ | exact ⟨rfl, rfl, rfl⟩))) | (refine both_ways ?_ ?_) | (rw [wrap_i64 (by omega) (by omega)]) | (refine guardV_split (fun h => ?_) (fun h => ?_) <;> (try rw [h]) <;> (try simp at h) <;> (try (exfalso; omega))))
          · have hkd : n.kind = 1 := by assumption
            have hll : ((more lk (V (grOf Ns) r (kc D)) n.num : Nat) : Int) + 1 ≤ 1 := by assumption
            have hd6 : (6 - ((r + 1 : Nat) : Int) + 1) = 6 - (r : Int) := by omega
            have hpd := part_dir hP hne1 hsm (by rw [hmm]; omega)
            rw [hd6, ← en]
            rw [more_app] at hV3
            refine ih (by omega) hV3 (fun x => ?_) hn2 hkd (fun s4 hC hV4 => ?_) (fun s4 hC hx4 => ?_)
            · have := more_le (l := lk) (xs := V (grOf Ns) r (kc D) ++ [n.num]) x
              have hbx2 := hb x
              rw [List.length_append, List.length_singleton] at this
              omega
            · repeat' (first | (simp -dsimp only [↓reduceIte, go_sem, t0, t2, t19]) | (refine arr_intro fun _ => ?_) | (refine later_intro ⟨keeps_nil, ?_⟩) | (refine later_intro ⟨keeps_refl, ?_⟩) | (with_reducible refine keeps_go ?_ ?_; focus (first | (simp [keeps_cons, keeps_none, objs_app, objs_app0]; done) | (simp only [keeps_cons, keeps_none, objs_app0, objs_app, and_true]; first | rfl | exact ⟨rfl, rfl⟩ | exact ⟨rfl, rfl, rfl⟩))) | (with_reducible refine (And.intro (a := keeps _ _ _) ?_ ?_); focus (first | (simp [keeps_cons, keeps_none, objs_app, objs_app0]; done) | (simp only [keeps_cons, keeps_none, objs_app0, objs_app, and_true]; first | rfl | exact ⟨rfl, rfl⟩ | exact ⟨rfl, rfl, rfl⟩))) | (refine both_ways ?_ ?_) | (rw [wrap_i64 (by omega) (by omega)]) | (refine guardV_split (fun h => ?_) (fun h => ?_) <;> (try rw [h]) <;> (try simp at h) <;> (try (exfalso; omega))))
              refine later_intro ⟨i + 1, by omega, D ++ [e], p.ck, by simp [hDl], hD', Nat.le_refl _, ?_, by rw [hkc]; exact hpd.2 hC, ?_, ?_, ?_⟩ <;> (try simp only [go_sem, t0, t2, t19]) <;> (try rfl)
              rw [more_app] at hV4
              rw [hkc, v_app, v_one]
              have e5 : V (grOf Ns) r (kc D) ++ [n.num] ++ U (grOf Ns) r n.num = V (grOf Ns) r (kc D) ++ n.num :: U (grOf Ns) r n.num := by simp
              rw [e5] at hV4
              exact hV4
            · repeat' (first | (simp -dsimp only [↓reduceIte, go_sem, t0, t2, t19]) | (refine arr_intro fun _ => ?_) | (refine later_intro ⟨keeps_nil, ?_⟩) | (refine later_intro ⟨keeps_refl, ?_⟩) | (with_reducible refine keeps_go ?_ ?_; focus (first | (simp [keeps_cons, keeps_none, objs_app, objs_app0]; done) | (simp only [keeps_cons, keeps_none, objs_app0, objs_app, and_true]; first | rfl | exact ⟨rfl, rfl⟩ | exact ⟨rfl, rfl, rfl⟩))) | (with_reducible refine (And.intro (a := keeps _ _ _) ?_ ?_); focus (first | (simp [keeps_cons, keeps_none, objs_app, objs_app0]; done) | (simp only [keeps_cons, keeps_none, objs_app0, objs_app, and_true]; first | rfl | exact ⟨rfl, rfl⟩ | exact ⟨rfl, rfl, rfl⟩))) | (refine both_ways ?_ ?_) | (rw [wrap_i64 (by omega) (by omega)]) | (refine guardV_split (fun h => ?_) (fun h => ?_) <;> (try rw [h]) <;> (try simp at h) <;> (try (exfalso; omega))))
              exact hF _ (hfail fun hc => hC (hpd.1 hc)) hx4
          · have hkd : n.kind = 1 := by assumption
            have hll : 1 < ((more lk (V (grOf Ns) r (kc D)) n.num : Nat) : Int) + 1 := by assumption
            refine hF _ (hfail fun hc => ?_) hV3.x
            have h9 := (part_head hc).2.2.1 (by rw [isD_of hv.nn hn2]; simp [hkd])
            simp only [more] at hll
            omega
          · have hkd : ¬ n.kind = 1 := by assumption
            have hkz : kids (grOf Ns) n.num = [] := by rw [kids_of hv.nn hn2, (hv.c n hn2).2.2.2 hkd]; rfl
            have hpf := part_file hP hne1 hsm (by rw [isD_of hv.nn hn2]; simp [hkd]) hkz
            refine later_intro ⟨i + 1, by omega, D ++ [e], p.ck, by simp [hDl], hD', Nat.le_refl _, ?_, by rw [hkc]; exact hpf, ?_, ?_, ?_⟩ <;> (try simp only [go_sem, t0, t2, t19]) <;> (try rfl)
            rw [hkc, v_app, v_one, u_file hkz]
            rw [more_app] at hV3
            exact hV3
        · exact hF _ (hfail fun hc => (part_head hc).1 (by assumption)) hV2.x
        · skip
          refine hF _ (hfail fun hc => ?_) hV2.x
          have := (part_head hc).2.1
          rw [fnd_no hno] at this; cases this
      · repeat' (first | (simp -dsimp only [↓reduceIte, go_sem, t0, t2, t19]) | (refine arr_intro fun _ => ?_) | (refine later_intro ⟨keeps_nil, ?_⟩) | (refine later_intro ⟨keeps_refl, ?_⟩) | (with_reducible refine keeps_go ?_ ?_; focus (first | (simp [keeps_cons, keeps_none, objs_app, objs_app0]; done) | (simp only [keeps_cons, keeps_none, objs_app0, objs_app, and_true]; first | rfl | exact ⟨rfl, rfl⟩ | exact ⟨rfl, rfl, rfl⟩))) | (with_reducible refine (And.intro (a := keeps _ _ _) ?_ ?_); focus (first | (simp [keeps_cons, keeps_none, objs_app, objs_app0]; done) | (simp only [keeps_cons, keeps_none, objs_app0, objs_app, and_true]; first | rfl | exact ⟨rfl, rfl⟩ | exact ⟨rfl, rfl, rfl⟩))) | (refine both_ways ?_ ?_) | (rw [wrap_i64 (by omega) (by omega)]) | (refine guardV_split (fun h => ?_) (fun h => ?_) <;> (try rw [h]) <;> (try simp at h) <;> (try (exfalso; omega))))
        have hperm := hD.all c2 fun e he => by
          have := hall (entS e) (List.mem_map_of_mem he)
          simpa [entS, entG] using this
        have hpk : (kc D).Perm (kids (grOf Ns) p.num) := by rw [hkids]; exact hperm.map (·.2.2)
        refine hT _ (cond_part.2 ((part_perm hpk).1 hP)) ?_
        have e1 : more lk (U (grOf Ns) (r + 1) p.num) = more lk (V (grOf Ns) r (kc D)) := (more_perm (v_perm hpk)).symm
        rw [e1]
        exact hV.less
end
def blkV (n : Nat) : Nat := (n + 31) / 32
theorem blocks_c {n : Nat} {s : AST} {K : AV → AST → Prop} (hn : n ≤ 1000000) (hK : K (.int .i64 (blkV n)) s) : TCalls Try.prog 118 [.int .i64 n] s K := by
  refine tcalls_walk Try.f118 _ [.tmp 2] Try.func118 rfl rfl rfl mixed (Nat.le_of_ble_eq_true rfl) rfl fun hlen => ?_
  repeat' (first | (simp -dsimp only [↓reduceIte, go_sem]) | (refine arr_intro fun _ => ?_) | (refine later_intro ⟨keeps_nil, ?_⟩) | (refine later_intro ⟨keeps_refl, ?_⟩) | (with_reducible refine keeps_go ?_ ?_; focus (first | (simp [keeps_cons, keeps_none, objs_app, objs_app0]; done) | (simp only [keeps_cons, keeps_none, objs_app0, objs_app, and_true]; first | rfl | exact ⟨rfl, rfl⟩ | exact ⟨rfl, rfl, rfl⟩))) | (with_reducible refine (And.intro (a := keeps _ _ _) ?_ ?_); focus (first | (simp [keeps_cons, keeps_none, objs_app, objs_app0]; done) | (simp only [keeps_cons, keeps_none, objs_app0, objs_app, and_true]; first | rfl | exact ⟨rfl, rfl⟩ | exact ⟨rfl, rfl, rfl⟩))) | (refine both_ways ?_ ?_) | (rw [wrap_i64 (by omega) (by omega)]) | (refine guardV_split (fun h => ?_) (fun h => ?_) <;> (try rw [h]) <;> (try simp at h) <;> (try (exfalso; omega))))
  rw [wrap64 (n := (n : Int) + 32) (by omega) (by omega), wrap64 (n := (n : Int) + 32 - 1) (by omega) (by omega), show ((n : Int) + 32 - 1) = ((n + 31 : Nat) : Int) by omega, show Int.tdiv ((n + 31 : Nat) : Int) 32 = (((n + 31) / 32 : Nat) : Int) from tdiv_nat (n + 31) 32, wrap64 (by omega) (by omega)]
  exact hK
section
variable {σ0 s : AST} {j mi : Nat} {Ns : List VN} {lk : Int → Nat} {F : List (Nat × AObj)} {K : AV → AST → Prop}
def szK (Ns : List VN) (f : VN → Nat) (k : Nat) : Nat := match Ns.find? (fun n => n.kn == k) with
  | some n => f n
  | none => 0
theorem szK_of (h : (Ns.map (·.kn)).Nodup) {f : VN → Nat} {n : VN} (hn : n ∈ Ns) : szK Ns f n.kn = f n := by
  unfold szK
  cases hf : Ns.find? (fun x => x.kn == n.kn) with
  | none =>
    have := List.find?_eq_none.1 hf n hn
    simp at this
  | some p =>
    have hp := List.mem_of_find?_eq_some hf
    have he := List.find?_some hf
    simp at he
    rw [mem_inj h hp hn he]
theorem szK_le {f : VN → Nat} {b : Nat} (hf : ∀ n ∈ Ns, f n ≤ b) (k : Nat) : szK Ns f k ≤ b := by
  unfold szK
  split
  · exact hf _ (List.mem_of_find?_eq_some ‹_›)
  · exact Nat.zero_le _
def totK (Ns : List VN) (f : VN → Nat) (D : List (Nat × Int × Nat)) : Nat := (D.map fun e => szK Ns f e.2.2).sum
theorem totK_le {f : VN → Nat} {b : Nat} (hf : ∀ n ∈ Ns, f n ≤ b) : ∀ D, totK Ns f D ≤ D.length * b
  | [] => by simp [totK]
  | e :: D => by
    have ih := totK_le hf D
    have := szK_le hf e.2.2
    simp only [totK, List.map_cons, List.sum_cons, List.length_cons, Nat.add_mul] at ih ⊢
    omega
theorem totK_add {f : VN → Nat} {D : List (Nat × Int × Nat)} {e : Nat × Int × Nat} : totK Ns f (D ++ [e]) = totK Ns f D + szK Ns f e.2.2 := by simp [totK]
theorem totK_all (h : (Ns.map (·.kn)).Nodup) {f : VN → Nat} {D E : List (Nat × Int × Nat)} (hp : D.Perm E) (hE : E.map (·.2) = Ns.map (fun n => (n.num, n.kn))) : totK Ns f D = (Ns.map f).sum := by
  have h1 : totK Ns f D = totK Ns f E := (hp.map _).sum_nat
  have h2 : totK Ns f E = (((E.map (·.2)).map fun x => szK Ns f x.2)).sum := by unfold totK; rw [List.map_map]; rfl
  rw [h1, h2, hE, List.map_map]
  congr 1
  exact List.map_congr_left fun n hn => szK_of h hn
theorem used_c (h : VF σ0 s j mi Ns lk F) (hN : Ns.length ≤ 100) (hd : ∀ n ∈ Ns, n.data.length ≤ 1000) (hK : ∀ s', VF σ0 s' j mi Ns lk F → K (.int .i64 ((Ns.map fun n => blkV n.data.length).sum : Nat)) s') :
    TCalls Try.prog 105 [.ptr (some (j, []))] s K := by
  obtain ⟨E, ck, m1, m2, m3, m4⟩ := h.m
  have hj := cellAt_known h.o
  have hEN : E.length = Ns.length := by have := congrArg List.length m2; simpa using this
  have hfb : ∀ n ∈ Ns, blkV n.data.length ≤ 1000 := fun n hn => by have := hd n hn; unfold blkV; omega
  refine tcalls_walk Try.f105 _ [.tmp 2] Try.func105 rfl rfl rfl mixed (Nat.le_of_ble_eq_true rfl) rfl fun hlen => ?_
  repeat' (first | (simp -dsimp only [↓reduceIte, go_sem, hj]) | (refine arr_intro fun _ => ?_) | (refine later_intro ⟨keeps_nil, ?_⟩) | (refine later_intro ⟨keeps_refl, ?_⟩) | (with_reducible refine keeps_go ?_ ?_; focus (first | (simp [keeps_cons, keeps_none, objs_app, objs_app0]; done) | (simp only [keeps_cons, keeps_none, objs_app0, objs_app, and_true]; first | rfl | exact ⟨rfl, rfl⟩ | exact ⟨rfl, rfl, rfl⟩))) | (with_reducible refine (And.intro (a := keeps _ _ _) ?_ ?_); focus (first | (simp [keeps_cons, keeps_none, objs_app, objs_app0]; done) | (simp only [keeps_cons, keeps_none, objs_app0, objs_app, and_true]; first | rfl | exact ⟨rfl, rfl⟩ | exact ⟨rfl, rfl, rfl⟩))) | (refine both_ways ?_ ?_) | (rw [wrap_i64 (by omega) (by omega)]) | (refine guardV_split (fun h => ?_) (fun h => ?_) <;> (try rw [h]) <;> (try simp at h) <;> (try (exfalso; omega))))
  refine ⟨⟨3, 176, Try.underlying172⟩, ?_⟩
  simp only [m1]
  intro l b
  repeat' (first | (simp -dsimp only [↓reduceIte, go_sem]) | (refine arr_intro fun _ => ?_) | (refine later_intro ⟨keeps_nil, ?_⟩) | (refine later_intro ⟨keeps_refl, ?_⟩) | (with_reducible refine keeps_go ?_ ?_; focus (first | (simp [keeps_cons, keeps_none, objs_app, objs_app0]; done) | (simp only [keeps_cons, keeps_none, objs_app0, objs_app, and_true]; first | rfl | exact ⟨rfl, rfl⟩ | exact ⟨rfl, rfl, rfl⟩))) | (with_reducible refine (And.intro (a := keeps _ _ _) ?_ ?_); focus (first | (simp [keeps_cons, keeps_none, objs_app, objs_app0]; done) | (simp only [keeps_cons, keeps_none, objs_app0, objs_app, and_true]; first | rfl | exact ⟨rfl, rfl⟩ | exact ⟨rfl, rfl, rfl⟩))) | (refine both_ways ?_ ?_) | (rw [wrap_i64 (by omega) (by omega)]) | (refine guardV_split (fun h => ?_) (fun h => ?_) <;> (try rw [h]) <;> (try simp at h) <;> (try (exfalso; omega))))
  have hbx := h.box (iterO l b mi ck #[] ck)
  have hl4 := h.lts
  have hle : σ0.objs.length ≤ s.objs.length := by obtain ⟨O, T, rfl⟩ := h.x; simp
  have hmx : (s.app [iterO l b mi ck #[] ck]).objs[mi]? = some (.map (E.map entI) ck) := ext_knownV (Ext.app _ _) m1
  generalize hk0 : s.objs.length = k0 at *
  generalize s.app [iterO l b mi ck #[] ck] = s0 at hbx hmx ⊢
  refine awp_rounds (fun (i : Nat) τ s' => ∃ (D : List (Nat × Int × Nat)) (last : Nat), D.length = i ∧ Seen E D ∧ ck ≤ last ∧ VF σ0 s' j mi Ns lk ((k0, iterO l b mi ck (D.map (·.1)).toArray last) :: F) ∧ s'.objs[mi]? = some (.map (E.map entI) ck) ∧ τ 0 = .ptr (some (j, [])) ∧ τ 3 = .int .i64 (totK Ns (fun n => blkV n.data.length) D : Nat) ∧ τ 10 = .ptr (some (k0, []))) (fun i => E.length - i) 0 ?_ ?_
  · refine ⟨[], ck, rfl, Seen.nil, Nat.le_refl _, hbx, hmx, ?_, ?_, ?_⟩ <;> (try simp only [go_sem]) <;> (try rfl)
  · rintro i τ s' ⟨D, last, hDl, hD, hla, hV, hm', t0, t3, t10⟩
    have hit := (hV.f _ (List.mem_cons_self ..)).1
    dsimp only at hit
    repeat' (first | (simp -dsimp only [↓reduceIte, go_sem, t0, t3, t10]) | (refine arr_intro fun _ => ?_) | (refine later_intro ⟨keeps_nil, ?_⟩) | (refine later_intro ⟨keeps_refl, ?_⟩) | (with_reducible refine keeps_go ?_ ?_; focus (first | (simp [keeps_cons, keeps_none, objs_app, objs_app0]; done) | (simp only [keeps_cons, keeps_none, objs_app0, objs_app, and_true]; first | rfl | exact ⟨rfl, rfl⟩ | exact ⟨rfl, rfl, rfl⟩))) | (with_reducible refine (And.intro (a := keeps _ _ _) ?_ ?_); focus (first | (simp [keeps_cons, keeps_none, objs_app, objs_app0]; done) | (simp only [keeps_cons, keeps_none, objs_app0, objs_app, and_true]; first | rfl | exact ⟨rfl, rfl⟩ | exact ⟨rfl, rfl, rfl⟩))) | (refine both_ways ?_ ?_) | (rw [wrap_i64 (by omega) (by omega)]) | (refine guardV_split (fun h => ?_) (fun h => ?_) <;> (try rw [h]) <;> (try simp at h) <;> (try (exfalso; omega))))
    refine ⟨rfl, k0, l, b, mi, ck, _, last, _, _, rfl, hit, hm', ?_, hla, fun e he hne => ?_, fun hall => ?_⟩
    · intro e he
      obtain ⟨x, hx, rfl⟩ := List.mem_map.1 he
      exact m3 x hx
    · obtain ⟨e, he0, rfl⟩ := List.mem_map.1 he
      have hne' : ¬ e.1 ∈ D.map (·.1) := by simpa [entI, entG] using hne
      have hD' := hD.add he0 hne'
      have hl2 := hD'.len m4
      rw [List.length_append] at hl2
      simp only [List.length_singleton] at hl2
      have hV2 := hV.setF (o' := iterO l b mi ck ((D.map (·.1)).toArray.push (entI e).1) ck) hle (fun y hy => by have := hl4.2.2.2 y hy; omega)
      have om : (s'.set k0 (iterO l b mi ck ((D.map (·.1)).toArray.push (entI e).1) ck)).objs[mi]? = some (.map (E.map entI) ck) := by rw [objs_setNV (by omega)]; exact hm'
      generalize hs2 : s'.set k0 (iterO l b mi ck ((D.map (·.1)).toArray.push (entI e).1) ck) = s2 at hV2 om
      have oit := (hV2.f _ (List.mem_cons_self ..)).1
      dsimp only at oit
      repeat' (first | (simp -dsimp only [↓reduceIte, go_sem, t0, t3, t10, hs2]) | (refine arr_intro fun _ => ?_) | (refine later_intro ⟨keeps_nil, ?_⟩) | (refine later_intro ⟨keeps_refl, ?_⟩) | (with_reducible refine keeps_go ?_ ?_; focus (first | (simp [keeps_cons, keeps_none, objs_app, objs_app0]; done) | (simp only [keeps_cons, keeps_none, objs_app0, objs_app, and_true]; first | rfl | exact ⟨rfl, rfl⟩ | exact ⟨rfl, rfl, rfl⟩))) | (with_reducible refine (And.intro (a := keeps _ _ _) ?_ ?_); focus (first | (simp [keeps_cons, keeps_none, objs_app, objs_app0]; done) | (simp only [keeps_cons, keeps_none, objs_app0, objs_app, and_true]; first | rfl | exact ⟨rfl, rfl⟩ | exact ⟨rfl, rfl, rfl⟩))) | (refine both_ways ?_ ?_) | (rw [wrap_i64 (by omega) (by omega)]) | (refine guardV_split (fun h => ?_) (fun h => ?_) <;> (try rw [h]) <;> (try simp at h) <;> (try (exfalso; omega))))
      refine ⟨k0, l, b, mi, ck, (D.map (·.1)).toArray, _, entI e, ck, rfl, oit, om, he, ?_⟩
      have k2 : (entI e).2.2 = .ptr (some (e.2.2, [])) := rfl
      have hmE : e.2 ∈ Ns.map (fun n => (n.num, n.kn)) := by rw [← m2]; exact List.mem_map.2 ⟨e, he0, rfl⟩
      obtain ⟨n, hn2, en⟩ := List.mem_map.1 hmE
      have ek : e.2.2 = n.kn := by rw [← en]
      rw [ek] at k2
      have hn3 := hV2.n n hn2
      have cn3 := cellAt_known hn3
      have htl := totK_le hfb D
      have hfn := hfb n hn2
      have hdl := hd n hn2
      have htl2 : totK Ns (fun n => blkV n.data.length) D ≤ 100 * 1000 := Nat.le_trans htl (Nat.mul_le_mul_right _ (by omega))
      repeat' (first | (simp -dsimp only [↓reduceIte, go_sem, t0, t3, t10, k2, cn3]) | (refine arr_intro fun _ => ?_) | (refine later_intro ⟨keeps_nil, ?_⟩) | (refine later_intro ⟨keeps_refl, ?_⟩) | (with_reducible refine keeps_go ?_ ?_; focus (first | (simp [keeps_cons, keeps_none, objs_app, objs_app0]; done) | (simp only [keeps_cons, keeps_none, objs_app0, objs_app, and_true]; first | rfl | exact ⟨rfl, rfl⟩ | exact ⟨rfl, rfl, rfl⟩))) | (with_reducible refine (And.intro (a := keeps _ _ _) ?_ ?_); focus (first | (simp [keeps_cons, keeps_none, objs_app, objs_app0]; done) | (simp only [keeps_cons, keeps_none, objs_app0, objs_app, and_true]; first | rfl | exact ⟨rfl, rfl⟩ | exact ⟨rfl, rfl, rfl⟩))) | (refine both_ways ?_ ?_) | (rw [wrap_i64 (by omega) (by omega)]) | (refine guardV_split (fun h => ?_) (fun h => ?_) <;> (try rw [h]) <;> (try simp at h) <;> (try (exfalso; omega))) | ((refine blocks_c (by omega) ?_)))
      have hita : (D.map (·.1)).toArray.push (entI e).1 = ((D ++ [e]).map (·.1)).toArray := by simp [entI, entG]
      rw [hita] at hV2
      refine later_intro ⟨i + 1, by omega, D ++ [e], ck, by simp [hDl], hD', Nat.le_refl _, hV2, om, ?_, ?_, ?_⟩ <;> (try simp only [go_sem, t0, t3, t10]) <;> (try rfl)
      rw [totK_add, ek, szK_of h.kd hn2, Int.natCast_add]
    · have hperm := hD.all m4 fun e he => by
        have := hall (entI e) (List.mem_map_of_mem he)
        simpa [entI, entG] using this
      repeat' (first | (simp -dsimp only [↓reduceIte, go_sem, t0, t3, t10]) | (refine arr_intro fun _ => ?_) | (refine later_intro ⟨keeps_nil, ?_⟩) | (refine later_intro ⟨keeps_refl, ?_⟩) | (with_reducible refine keeps_go ?_ ?_; focus (first | (simp [keeps_cons, keeps_none, objs_app, objs_app0]; done) | (simp only [keeps_cons, keeps_none, objs_app0, objs_app, and_true]; first | rfl | exact ⟨rfl, rfl⟩ | exact ⟨rfl, rfl, rfl⟩))) | (with_reducible refine (And.intro (a := keeps _ _ _) ?_ ?_); focus (first | (simp [keeps_cons, keeps_none, objs_app, objs_app0]; done) | (simp only [keeps_cons, keeps_none, objs_app0, objs_app, and_true]; first | rfl | exact ⟨rfl, rfl⟩ | exact ⟨rfl, rfl, rfl⟩))) | (refine both_ways ?_ ?_) | (rw [wrap_i64 (by omega) (by omega)]) | (refine guardV_split (fun h => ?_) (fun h => ?_) <;> (try rw [h]) <;> (try simp at h) <;> (try (exfalso; omega))))
      rw [totK_all h.kd hperm m2]
      exact hK _ hV.less
theorem many_c (h : VF σ0 s j mi Ns lk F) (hN : Ns.length ≤ 100) (hd : ∀ n ∈ Ns, n.ch.length ≤ 1000) (hK : ∀ s', VF σ0 s' j mi Ns lk F → K (.int .i64 ((Ns.map fun n => n.ch.length).sum : Nat)) s') :
    TCalls Try.prog 106 [.ptr (some (j, []))] s K := by
  obtain ⟨E, ck, m1, m2, m3, m4⟩ := h.m
  have hj := cellAt_known h.o
  have hEN : E.length = Ns.length := by have := congrArg List.length m2; simpa using this
  have hfb : ∀ n ∈ Ns, n.ch.length ≤ 1000 := hd
  refine tcalls_walk Try.f106 _ [.tmp 2] Try.func106 rfl rfl rfl mixed (Nat.le_of_ble_eq_true rfl) rfl fun hlen => ?_
  repeat' (first | (simp -dsimp only [↓reduceIte, go_sem, hj]) | (refine arr_intro fun _ => ?_) | (refine later_intro ⟨keeps_nil, ?_⟩) | (refine later_intro ⟨keeps_refl, ?_⟩) | (with_reducible refine keeps_go ?_ ?_; focus (first | (simp [keeps_cons, keeps_none, objs_app, objs_app0]; done) | (simp only [keeps_cons, keeps_none, objs_app0, objs_app, and_true]; first | rfl | exact ⟨rfl, rfl⟩ | exact ⟨rfl, rfl, rfl⟩))) | (with_reducible refine (And.intro (a := keeps _ _ _) ?_ ?_); focus (first | (simp [keeps_cons, keeps_none, objs_app, objs_app0]; done) | (simp only [keeps_cons, keeps_none, objs_app0, objs_app, and_true]; first | rfl | exact ⟨rfl, rfl⟩ | exact ⟨rfl, rfl, rfl⟩))) | (refine both_ways ?_ ?_) | (rw [wrap_i64 (by omega) (by omega)]) | (refine guardV_split (fun h => ?_) (fun h => ?_) <;> (try rw [h]) <;> (try simp at h) <;> (try (exfalso; omega))))
  refine ⟨⟨3, 176, Try.underlying172⟩, ?_⟩
  simp only [m1]
  intro l b
  repeat' (first | (simp -dsimp only [↓reduceIte, go_sem]) | (refine arr_intro fun _ => ?_) | (refine later_intro ⟨keeps_nil, ?_⟩) | (refine later_intro ⟨keeps_refl, ?_⟩) | (with_reducible refine keeps_go ?_ ?_; focus (first | (simp [keeps_cons, keeps_none, objs_app, objs_app0]; done) | (simp only [keeps_cons, keeps_none, objs_app0, objs_app, and_true]; first | rfl | exact ⟨rfl, rfl⟩ | exact ⟨rfl, rfl, rfl⟩))) | (with_reducible refine (And.intro (a := keeps _ _ _) ?_ ?_); focus (first | (simp [keeps_cons, keeps_none, objs_app, objs_app0]; done) | (simp only [keeps_cons, keeps_none, objs_app0, objs_app, and_true]; first | rfl | exact ⟨rfl, rfl⟩ | exact ⟨rfl, rfl, rfl⟩))) | (refine both_ways ?_ ?_) | (rw [wrap_i64 (by omega) (by omega)]) | (refine guardV_split (fun h => ?_) (fun h => ?_) <;> (try rw [h]) <;> (try simp at h) <;> (try (exfalso; omega))))
  have hbx := h.box (iterO l b mi ck #[] ck)
  have hl4 := h.lts
  have hle : σ0.objs.length ≤ s.objs.length := by obtain ⟨O, T, rfl⟩ := h.x; simp
  have hmx : (s.app [iterO l b mi ck #[] ck]).objs[mi]? = some (.map (E.map entI) ck) := ext_knownV (Ext.app _ _) m1
  generalize hk0 : s.objs.length = k0 at *
  generalize s.app [iterO l b mi ck #[] ck] = s0 at hbx hmx ⊢
  refine awp_rounds (fun (i : Nat) τ s' => ∃ (D : List (Nat × Int × Nat)) (last : Nat), D.length = i ∧ Seen E D ∧ ck ≤ last ∧ VF σ0 s' j mi Ns lk ((k0, iterO l b mi ck (D.map (·.1)).toArray last) :: F) ∧ s'.objs[mi]? = some (.map (E.map entI) ck) ∧ τ 0 = .ptr (some (j, [])) ∧ τ 3 = .int .i64 (totK Ns (fun n => n.ch.length) D : Nat) ∧ τ 10 = .ptr (some (k0, []))) (fun i => E.length - i) 0 ?_ ?_
  · refine ⟨[], ck, rfl, Seen.nil, Nat.le_refl _, hbx, hmx, ?_, ?_, ?_⟩ <;> (try simp only [go_sem]) <;> (try rfl)
  · rintro i τ s' ⟨D, last, hDl, hD, hla, hV, hm', t0, t3, t10⟩
    have hit := (hV.f _ (List.mem_cons_self ..)).1
    dsimp only at hit
    repeat' (first | (simp -dsimp only [↓reduceIte, go_sem, t0, t3, t10]) | (refine arr_intro fun _ => ?_) | (refine later_intro ⟨keeps_nil, ?_⟩) | (refine later_intro ⟨keeps_refl, ?_⟩) | (with_reducible refine keeps_go ?_ ?_; focus (first | (simp [keeps_cons, keeps_none, objs_app, objs_app0]; done) | (simp only [keeps_cons, keeps_none, objs_app0, objs_app, and_true]; first | rfl | exact ⟨rfl, rfl⟩ | exact ⟨rfl, rfl, rfl⟩))) | (with_reducible refine (And.intro (a := keeps _ _ _) ?_ ?_); focus (first | (simp [keeps_cons, keeps_none, objs_app, objs_app0]; done) | (simp only [keeps_cons, keeps_none, objs_app0, objs_app, and_true]; first | rfl | exact ⟨rfl, rfl⟩ | exact ⟨rfl, rfl, rfl⟩))) | (refine both_ways ?_ ?_) | (rw [wrap_i64 (by omega) (by omega)]) | (refine guardV_split (fun h => ?_) (fun h => ?_) <;> (try rw [h]) <;> (try simp at h) <;> (try (exfalso; omega))))
    refine ⟨rfl, k0, l, b, mi, ck, _, last, _, _, rfl, hit, hm', ?_, hla, fun e he hne => ?_, fun hall => ?_⟩
    · intro e he
      obtain ⟨x, hx, rfl⟩ := List.mem_map.1 he
      exact m3 x hx
    · obtain ⟨e, he0, rfl⟩ := List.mem_map.1 he
      have hne' : ¬ e.1 ∈ D.map (·.1) := by simpa [entI, entG] using hne
      have hD' := hD.add he0 hne'
      have hl2 := hD'.len m4
      rw [List.length_append] at hl2
      simp only [List.length_singleton] at hl2
      have hV2 := hV.setF (o' := iterO l b mi ck ((D.map (·.1)).toArray.push (entI e).1) ck) hle (fun y hy => by have := hl4.2.2.2 y hy; omega)
      have om : (s'.set k0 (iterO l b mi ck ((D.map (·.1)).toArray.push (entI e).1) ck)).objs[mi]? = some (.map (E.map entI) ck) := by rw [objs_setNV (by omega)]; exact hm'
      generalize hs2 : s'.set k0 (iterO l b mi ck ((D.map (·.1)).toArray.push (entI e).1) ck) = s2 at hV2 om
      have oit := (hV2.f _ (List.mem_cons_self ..)).1
      dsimp only at oit
      repeat' (first | (simp -dsimp only [↓reduceIte, go_sem, t0, t3, t10, hs2]) | (refine arr_intro fun _ => ?_) | (refine later_intro ⟨keeps_nil, ?_⟩) | (refine later_intro ⟨keeps_refl, ?_⟩) | (with_reducible refine keeps_go ?_ ?_; focus (first | (simp [keeps_cons, keeps_none, objs_app, objs_app0]; done) | (simp only [keeps_cons, keeps_none, objs_app0, objs_app, and_true]; first | rfl | exact ⟨rfl, rfl⟩ | exact ⟨rfl, rfl, rfl⟩))) | (with_reducible refine (And.intro (a := keeps _ _ _) ?_ ?_); focus (first | (simp [keeps_cons, keeps_none, objs_app, objs_app0]; done) | (simp only [keeps_cons, keeps_none, objs_app0, objs_app, and_true]; first | rfl | exact ⟨rfl, rfl⟩ | exact ⟨rfl, rfl, rfl⟩))) | (refine both_ways ?_ ?_) | (rw [wrap_i64 (by omega) (by omega)]) | (refine guardV_split (fun h => ?_) (fun h => ?_) <;> (try rw [h]) <;> (try simp at h) <;> (try (exfalso; omega))))
      refine ⟨k0, l, b, mi, ck, (D.map (·.1)).toArray, _, entI e, ck, rfl, oit, om, he, ?_⟩
      have k2 : (entI e).2.2 = .ptr (some (e.2.2, [])) := rfl
      have hmE : e.2 ∈ Ns.map (fun n => (n.num, n.kn)) := by rw [← m2]; exact List.mem_map.2 ⟨e, he0, rfl⟩
      obtain ⟨n, hn2, en⟩ := List.mem_map.1 hmE
      have ek : e.2.2 = n.kn := by rw [← en]
      rw [ek] at k2
      have hn3 := hV2.n n hn2
      have cn3 := cellAt_known hn3
      have htl := totK_le hfb D
      have hfn := hfb n hn2
      have hdl := hd n hn2
      have htl2 : totK Ns (fun n => n.ch.length) D ≤ 100 * 1000 := Nat.le_trans htl (Nat.mul_le_mul_right _ (by omega))
      have hmn : (n.mn = none ∧ n.ch = []) ∨ ∃ q, n.mn = some q ∧ s2.objs[q]? = some (.map (n.ch.map entS) n.ck) := by
        cases hq : n.mn with
        | none =>
          refine Or.inl ⟨rfl, (h.c n hn2).2.2.2 fun hk => ?_⟩
          obtain ⟨q, hq2⟩ := (h.c n hn2).2.2.1 hk
          rw [hq] at hq2; cases hq2
        | some q => exact Or.inr ⟨q, rfl, hV2.d n hn2 q hq⟩
      have hu177 := Try.underlying177
      have hq5 : IntKind.i64.wrap (((totK Ns (fun n => n.ch.length) D : Nat) : Int) + (n.ch.length : Nat)) = ((totK Ns (fun n => n.ch.length) D : Nat) : Int) + (n.ch.length : Nat) := by rw [wrap64] <;> omega
      have hita : (D.map (·.1)).toArray.push (entI e).1 = ((D ++ [e]).map (·.1)).toArray := by simp [entI, entG]
      have htt : (((totK Ns (fun n => n.ch.length) (D ++ [e]) : Nat) : Int)) = ((totK Ns (fun n => n.ch.length) D : Nat) : Int) + (n.ch.length : Nat) := by rw [totK_add, ek, szK_of h.kd hn2, Int.natCast_add]
      refine Or.elim hmn (fun hm1 => ?_) (fun hm1 => ?_)
      · rw [hm1.1] at cn3
        have hz : n.ch.length = 0 := by rw [hm1.2]; rfl
        rw [hz] at hq5 htt
        repeat' (first | (simp -dsimp only [↓reduceIte, go_sem, t0, t3, t10, k2, cn3, len_mpnil hu177]) | (refine arr_intro fun _ => ?_) | (refine later_intro ⟨keeps_nil, ?_⟩) | (refine later_intro ⟨keeps_refl, ?_⟩) | (with_reducible refine keeps_go ?_ ?_; focus (first | (simp [keeps_cons, keeps_none, objs_app, objs_app0]; done) | (simp only [keeps_cons, keeps_none, objs_app0, objs_app, and_true]; first | rfl | exact ⟨rfl, rfl⟩ | exact ⟨rfl, rfl, rfl⟩))) | (with_reducible refine (And.intro (a := keeps _ _ _) ?_ ?_); focus (first | (simp [keeps_cons, keeps_none, objs_app, objs_app0]; done) | (simp only [keeps_cons, keeps_none, objs_app0, objs_app, and_true]; first | rfl | exact ⟨rfl, rfl⟩ | exact ⟨rfl, rfl, rfl⟩))) | (refine both_ways ?_ ?_) | (rw [wrap_i64 (by omega) (by omega)]) | (refine guardV_split (fun h => ?_) (fun h => ?_) <;> (try rw [h]) <;> (try simp at h) <;> (try (exfalso; omega))))
        rw [hita] at hV2
        refine later_intro ⟨i + 1, by omega, D ++ [e], ck, by simp [hDl], hD', Nat.le_refl _, hV2, om, ?_, ?_, ?_⟩ <;> (try simp only [go_sem, t0, t3, t10, htt]) <;> (try rfl)
      · obtain ⟨q, hm2, hm3⟩ := hm1
        rw [hm2] at cn3
        repeat' (first | (simp -dsimp only [↓reduceIte, go_sem, t0, t3, t10, k2, cn3, len_mp hu177 hm3]) | (refine arr_intro fun _ => ?_) | (refine later_intro ⟨keeps_nil, ?_⟩) | (refine later_intro ⟨keeps_refl, ?_⟩) | (with_reducible refine keeps_go ?_ ?_; focus (first | (simp [keeps_cons, keeps_none, objs_app, objs_app0]; done) | (simp only [keeps_cons, keeps_none, objs_app0, objs_app, and_true]; first | rfl | exact ⟨rfl, rfl⟩ | exact ⟨rfl, rfl, rfl⟩))) | (with_reducible refine (And.intro (a := keeps _ _ _) ?_ ?_); focus (first | (simp [keeps_cons, keeps_none, objs_app, objs_app0]; done) | (simp only [keeps_cons, keeps_none, objs_app0, objs_app, and_true]; first | rfl | exact ⟨rfl, rfl⟩ | exact ⟨rfl, rfl, rfl⟩))) | (refine both_ways ?_ ?_) | (rw [wrap_i64 (by omega) (by omega)]) | (refine guardV_split (fun h => ?_) (fun h => ?_) <;> (try rw [h]) <;> (try simp at h) <;> (try (exfalso; omega))))
        refine ⟨by simp only [maxL]; omega, later_intro ?_⟩
        have hcl : (n.ch.map entS).length = n.ch.length := List.length_map ..
        repeat' (first | (simp -dsimp only [↓reduceIte, go_sem, t0, t3, t10, k2, cn3, hcl]) | (refine arr_intro fun _ => ?_) | (refine later_intro ⟨keeps_nil, ?_⟩) | (refine later_intro ⟨keeps_refl, ?_⟩) | (with_reducible refine keeps_go ?_ ?_; focus (first | (simp [keeps_cons, keeps_none, objs_app, objs_app0]; done) | (simp only [keeps_cons, keeps_none, objs_app0, objs_app, and_true]; first | rfl | exact ⟨rfl, rfl⟩ | exact ⟨rfl, rfl, rfl⟩))) | (with_reducible refine (And.intro (a := keeps _ _ _) ?_ ?_); focus (first | (simp [keeps_cons, keeps_none, objs_app, objs_app0]; done) | (simp only [keeps_cons, keeps_none, objs_app0, objs_app, and_true]; first | rfl | exact ⟨rfl, rfl⟩ | exact ⟨rfl, rfl, rfl⟩))) | (refine both_ways ?_ ?_) | (rw [wrap_i64 (by omega) (by omega)]) | (refine guardV_split (fun h => ?_) (fun h => ?_) <;> (try rw [h]) <;> (try simp at h) <;> (try (exfalso; omega))))
        rw [hita] at hV2
        refine later_intro ⟨i + 1, by omega, D ++ [e], ck, by simp [hDl], hD', Nat.le_refl _, hV2, om, ?_, ?_, ?_⟩ <;> (try simp only [go_sem, t0, t3, t10, htt]) <;> (try rfl)
    · have hperm := hD.all m4 fun e he => by
        have := hall (entI e) (List.mem_map_of_mem he)
        simpa [entI, entG] using this
      repeat' (first | (simp -dsimp only [↓reduceIte, go_sem, t0, t3, t10]) | (refine arr_intro fun _ => ?_) | (refine later_intro ⟨keeps_nil, ?_⟩) | (refine later_intro ⟨keeps_refl, ?_⟩) | (with_reducible refine keeps_go ?_ ?_; focus (first | (simp [keeps_cons, keeps_none, objs_app, objs_app0]; done) | (simp only [keeps_cons, keeps_none, objs_app0, objs_app, and_true]; first | rfl | exact ⟨rfl, rfl⟩ | exact ⟨rfl, rfl, rfl⟩))) | (with_reducible refine (And.intro (a := keeps _ _ _) ?_ ?_); focus (first | (simp [keeps_cons, keeps_none, objs_app, objs_app0]; done) | (simp only [keeps_cons, keeps_none, objs_app0, objs_app, and_true]; first | rfl | exact ⟨rfl, rfl⟩ | exact ⟨rfl, rfl, rfl⟩))) | (refine both_ways ?_ ?_) | (rw [wrap_i64 (by omega) (by omega)]) | (refine guardV_split (fun h => ?_) (fun h => ?_) <;> (try rw [h]) <;> (try simp at h) <;> (try (exfalso; omega))))
      rw [totK_all h.kd hperm m2]
      exact hK _ hV.less
end
structure PlainN (x : Node) : Prop where
  n : 1 ≤ x.num ∧ x.num ≤ 32
  l : x.names.length = x.nodes.length
  k : (x.kind = 2 ∧ x.names = [] ∧ x.data.length ≤ 512) ∨ (x.kind = 1 ∧ x.data = [])
  s : L21.NamesOk x.names
  b : x.names.length ≤ 80
theorem plain_c {y : TNd} {s : AST} {K : AV → AST → Prop} (h : PlainN y.x) (hK : K (.bool true) s) : TCalls Try.prog 103 [ndX y] s K := by
  refine TCalls.drop ?_
  obtain ⟨x, t, u⟩ := y
  dsimp only at h
  obtain ⟨⟨h1, h2⟩, h3, h4, h5, h6⟩ := h
  have g1 : ¬ x.num < 1 := by omega
  have g2 : ¬ 32 < x.num := by omega
  have g3 : ((x.names.length : Nat) : Int) = x.nodes.length := by omega
  rcases h4 with ⟨hk, hnm, hd⟩ | ⟨hk, hd⟩
  · refine tcalls_walk Try.f103 _ [.tmp 2] Try.func103 rfl rfl rfl mixed (Nat.le_of_ble_eq_true rfl) rfl fun hlen => ?_
    have hd1 : ((x.data.length : Nat) : Int) ≤ 512 := by omega
    have g4 : x.nodes.length = 0 := by rw [← h3, hnm]; rfl
    repeat' (first | (simp -dsimp only [↓reduceIte, go_sem, ndX, g1, g2, hk, hnm, hd1, g4]) | (refine arr_intro fun _ => ?_) | (refine later_intro ⟨keeps_nil, ?_⟩) | (refine later_intro ⟨keeps_refl, ?_⟩) | (with_reducible refine keeps_go ?_ ?_; focus (first | (simp [keeps_cons, keeps_none, objs_app, objs_app0]; done) | (simp only [keeps_cons, keeps_none, objs_app0, objs_app, and_true]; first | rfl | exact ⟨rfl, rfl⟩ | exact ⟨rfl, rfl, rfl⟩))) | (with_reducible refine (And.intro (a := keeps _ _ _) ?_ ?_); focus (first | (simp [keeps_cons, keeps_none, objs_app, objs_app0]; done) | (simp only [keeps_cons, keeps_none, objs_app0, objs_app, and_true]; first | rfl | exact ⟨rfl, rfl⟩ | exact ⟨rfl, rfl, rfl⟩))) | (refine both_ways ?_ ?_) | (rw [wrap_i64 (by omega) (by omega)]) | (refine guardV_split (fun h => ?_) (fun h => ?_) <;> (try rw [h]) <;> (try simp at h) <;> (try (exfalso; omega))))
    · exact ⟨Ext.app _ _, rfl, hK⟩
  · refine tcalls_walk Try.f103 _ [.tmp 2] Try.func103 rfl rfl rfl mixed (Nat.le_of_ble_eq_true rfl) rfl fun hlen => ?_
    repeat' (first | (simp -dsimp only [↓reduceIte, go_sem, ndX, g1, g2, g3, hk, hd]) | (refine arr_intro fun _ => ?_) | (refine later_intro ⟨keeps_nil, ?_⟩) | (refine later_intro ⟨keeps_refl, ?_⟩) | (with_reducible refine keeps_go ?_ ?_; focus (first | (simp [keeps_cons, keeps_none, objs_app, objs_app0]; done) | (simp only [keeps_cons, keeps_none, objs_app0, objs_app, and_true]; first | rfl | exact ⟨rfl, rfl⟩ | exact ⟨rfl, rfl, rfl⟩))) | (with_reducible refine (And.intro (a := keeps _ _ _) ?_ ?_); focus (first | (simp [keeps_cons, keeps_none, objs_app, objs_app0]; done) | (simp only [keeps_cons, keeps_none, objs_app0, objs_app, and_true]; first | rfl | exact ⟨rfl, rfl⟩ | exact ⟨rfl, rfl, rfl⟩))) | (refine both_ways ?_ ?_) | (rw [wrap_i64 (by omega) (by omega)]) | (refine guardV_split (fun h => ?_) (fun h => ?_) <;> (try rw [h]) <;> (try simp at h) <;> (try (exfalso; omega))))
    have cb : ∀ p, cellAt (s.app [.cells (ndV t u x)]) s.objs.length p = (ndV t u x).at p := cellAt_known objs_app0
    have hx1 : Ext s (s.app [.cells (ndV t u x)]) := Ext.app _ _
    generalize s.app [.cells (ndV t u x)] = s1 at cb hx1 ⊢
    refine awp_rounds (fun (i : Nat) τ s' => s' = s1 ∧ i ≤ x.names.length ∧ τ 1 = .ptr (some (s.objs.length, [])) ∧ τ 47 = .slice t (x.names.map AV.str) ∧ τ 48 = .int .i64 x.names.length ∧ τ 49 = .int .i64 i) (fun i => x.names.length - i) 0 ?_ ?_
    · refine ⟨rfl, by omega, ?_, ?_, ?_, ?_⟩ <;> (try simp only [go_sem]) <;> (try rfl) <;> (try rw [g3])
    · rintro i τ s' ⟨rfl, hi, t1, t47, t48, t49⟩
      by_cases hb : i < x.names.length
      · have hlt1 : (i : Int) < x.names.length := by omega
        have hy : x.names[i]? = some x.names[i] := List.getElem?_eq_getElem hb
        generalize x.names[i] = z at hy
        obtain ⟨z1, z2⟩ := h5 i z hy
        have w1 : IntKind.i64.wrap ((i : Int) + 1) = (i : Int) + 1 := wrap_i64 (by omega) (by omega)
        by_cases hi0 : 0 < i
        · obtain ⟨z', hz'⟩ : ∃ z', x.names[i - 1]? = some z' := ⟨_, List.getElem?_eq_getElem (by omega)⟩
          have hle := z2 z' hi0 hz'
          have hle' : (Op.bytesLess z z' || z == z') = false := hle
          have hi1 : (0 : Int) < (i : Int) := by omega
          have w2 : IntKind.i64.wrap ((i : Int) - 1) = ((i - 1 : Nat) : Int) := by rw [wrap_i64 (by omega) (by omega)]; omega
          repeat' (first | (simp -dsimp only [↓reduceIte, go_sem, t1, t47, t48, t49, cb, hlt1, w1, w2, z1, hi1, hle']) | (refine arr_intro fun _ => ?_) | (refine later_intro ⟨keeps_nil, ?_⟩) | (refine later_intro ⟨keeps_refl, ?_⟩) | (with_reducible refine keeps_go ?_ ?_; focus (first | (simp [keeps_cons, keeps_none, objs_app, objs_app0]; done) | (simp only [keeps_cons, keeps_none, objs_app0, objs_app, and_true]; first | rfl | exact ⟨rfl, rfl⟩ | exact ⟨rfl, rfl, rfl⟩))) | (with_reducible refine (And.intro (a := keeps _ _ _) ?_ ?_); focus (first | (simp [keeps_cons, keeps_none, objs_app, objs_app0]; done) | (simp only [keeps_cons, keeps_none, objs_app0, objs_app, and_true]; first | rfl | exact ⟨rfl, rfl⟩ | exact ⟨rfl, rfl, rfl⟩))) | (refine both_ways ?_ ?_) | (rw [wrap_i64 (by omega) (by omega)]) | (refine guardV_split (fun h => ?_) (fun h => ?_) <;> (try rw [h]) <;> (try simp at h) <;> (try (exfalso; omega))) | (refine nth_get hy ?_) | (refine L21.name_c ?_) | (refine nth_get hz' ?_))
          exact later_intro ⟨i + 1, by omega, by omega, rfl⟩
        · have hi1 : i = 0 := by omega
          subst hi1
          have hi2 : ¬ (0 : Int) < ((0 : Nat) : Int) := by omega
          repeat' (first | (simp -dsimp only [↓reduceIte, go_sem, t1, t47, t48, t49, cb, hlt1, w1, z1, hi2]) | (refine arr_intro fun _ => ?_) | (refine later_intro ⟨keeps_nil, ?_⟩) | (refine later_intro ⟨keeps_refl, ?_⟩) | (with_reducible refine keeps_go ?_ ?_; focus (first | (simp [keeps_cons, keeps_none, objs_app, objs_app0]; done) | (simp only [keeps_cons, keeps_none, objs_app0, objs_app, and_true]; first | rfl | exact ⟨rfl, rfl⟩ | exact ⟨rfl, rfl, rfl⟩))) | (with_reducible refine (And.intro (a := keeps _ _ _) ?_ ?_); focus (first | (simp [keeps_cons, keeps_none, objs_app, objs_app0]; done) | (simp only [keeps_cons, keeps_none, objs_app0, objs_app, and_true]; first | rfl | exact ⟨rfl, rfl⟩ | exact ⟨rfl, rfl, rfl⟩))) | (refine both_ways ?_ ?_) | (rw [wrap_i64 (by omega) (by omega)]) | (refine guardV_split (fun h => ?_) (fun h => ?_) <;> (try rw [h]) <;> (try simp at h) <;> (try (exfalso; omega))) | (refine nth_get hy ?_) | (refine L21.name_c ?_))
          refine later_intro ⟨0 + 1, by omega, rfl, by omega, ?_, ?_, ?_, ?_⟩ <;> (try simp only [go_sem, t1, t47, t48, t49]) <;> (try rfl)
      · have hlt1 : ¬ (i : Int) < x.names.length := by omega
        repeat' (first | (simp -dsimp only [↓reduceIte, go_sem, t1, t47, t48, t49, hlt1]) | (refine arr_intro fun _ => ?_) | (refine later_intro ⟨keeps_nil, ?_⟩) | (refine later_intro ⟨keeps_refl, ?_⟩) | (with_reducible refine keeps_go ?_ ?_; focus (first | (simp [keeps_cons, keeps_none, objs_app, objs_app0]; done) | (simp only [keeps_cons, keeps_none, objs_app0, objs_app, and_true]; first | rfl | exact ⟨rfl, rfl⟩ | exact ⟨rfl, rfl, rfl⟩))) | (with_reducible refine (And.intro (a := keeps _ _ _) ?_ ?_); focus (first | (simp [keeps_cons, keeps_none, objs_app, objs_app0]; done) | (simp only [keeps_cons, keeps_none, objs_app0, objs_app, and_true]; first | rfl | exact ⟨rfl, rfl⟩ | exact ⟨rfl, rfl, rfl⟩))) | (refine both_ways ?_ ?_) | (rw [wrap_i64 (by omega) (by omega)]) | (refine guardV_split (fun h => ?_) (fun h => ?_) <;> (try rw [h]) <;> (try simp at h) <;> (try (exfalso; omega))))
        exact ⟨hx1, rfl, hK⟩
def chI (x : Node) (i : Nat) : List (Nat × List UInt8 × Int) := (List.range i).map fun q => (q, x.names.getD q [], x.nodes.getD q 0)
theorem chI_succ {x : Node} {i : Nat} {z : List UInt8} {c : Int} (hz : x.names[i]? = some z) (hc : x.nodes[i]? = some c) : chI x (i + 1) = chI x i ++ [(i, z, c)] := by
  unfold chI
  rw [List.range_succ, List.map_append, List.map_singleton]
  simp [List.getD, hz, hc]
theorem chI_mark {x : Node} {i : Nat} : ∀ e ∈ chI x i, e.1 < i := by
  intro e he
  obtain ⟨q, hq, rfl⟩ := List.mem_map.1 he
  exact List.mem_range.1 hq
theorem chI_nodup {x : Node} {i : Nat} : ((chI x i).map (·.1)).Nodup := by
  have : (chI x i).map (·.1) = List.range i := by unfold chI; rw [List.map_map]; exact List.map_id _
  rw [this]; exact List.nodup_range
theorem chI_all {x : Node} (h : x.names.length = x.nodes.length) : (chI x x.names.length).map (·.2.2) = x.nodes := by
  unfold chI
  rw [List.map_map, h]
  apply List.ext_getElem (by simp)
  intro i h1 h2
  simp [List.getD, List.getElem?_eq_getElem h2]
theorem chI_names {x : Node} {i : Nat} (hi : i ≤ x.names.length) : (chI x i).map (·.2.1) = x.names.take i := by
  unfold chI
  rw [List.map_map]
  apply List.ext_getElem (by simp; omega)
  intro q h1 h2
  have h3 : q < x.names.length := by simp at h2; omega
  simp [List.getD, List.getElem?_eq_getElem h3]
theorem chI_len {x : Node} {i : Nat} : (chI x i).length = i := by simp [chI]
theorem updS {s : AST} {q : Nat} {x : Node} {i : Nat} {z : List UInt8} {c : Int} {KS : AST → Prop} (ho : s.objs[q]? = some (.map ((chI x i).map entS) i)) (hz : x.names[i]? = some z) (hc : x.nodes[i]? = some c) (hn : ¬ z ∈ x.names.take i)
    (hK : KS (s.set q (.map ((chI x (i + 1)).map entS) (i + 1)))) : mapUpdateW Try.prog s 177 (.mp (some q)) (.str z) (.int .i64 c) KS := by
  refine ⟨9, 3, Try.underlying177, keyS, rfl, ?_⟩
  simp only [ho]
  refine ⟨_, findS, ?_⟩
  have hi := (List.getElem?_eq_some_iff.1 hz).1
  have hf : (chI x i).findIdx? (fun e => e.2.1 == z) = none := by
    rw [List.findIdx?_eq_none_iff]
    intro e he
    have : e.2.1 ∈ x.names.take i := by rw [← chI_names (by omega)]; exact List.mem_map.2 ⟨e, he, rfl⟩
    simp; rintro rfl; exact hn this
  rw [hf]
  rw [chI_succ hz hc, List.map_append] at hK
  exact hK
section
variable {σ0 s : AST} {j mi : Nat} {Ns : List VN} {F : List (Nat × AObj)} {KS : AST → Prop}
structure Fresh (σ0 s : AST) (j mi : Nat) (Ns : List VN) (n : VN) : Prop where
  o : s.objs[n.kn]? = some (.cells (.agg (vnPs n.kind 0 n.data n.mn)))
  d : ∀ q, n.mn = some q → s.objs[q]? = some (.map (n.ch.map entS) n.ck)
  k : n.kn ≠ j ∧ n.kn ≠ mi ∧ n.mn ≠ some n.kn ∧ ∀ p ∈ Ns, p.kn ≠ n.kn ∧ p.mn ≠ some n.kn ∧ n.mn ≠ some p.kn
  e : n.mn ≠ some mi ∧ n.mn ≠ some j
  g : σ0.objs.length ≤ n.kn
  c : (∀ e ∈ n.ch, e.1 < n.ck) ∧ (n.ch.map (·.1)).Nodup ∧ (n.kind = 1 → ∃ k, n.mn = some k) ∧ (n.kind ≠ 1 → n.ch = [])
  n : ∀ p ∈ Ns, p.num ≠ n.num
theorem updV {n : VN} (h : VF σ0 s j mi Ns (fun _ => 0) []) (hj : j ≠ mi) (hm : σ0.objs.length ≤ mi) (hd : ∀ p ∈ Ns, p.mn ≠ some mi) (hf : Fresh σ0 s j mi Ns n)
    (hK : ∀ s', VF σ0 s' j mi (Ns ++ [n]) (fun _ => 0) [] → (∀ q, q ≠ mi → s'.objs[q]? = s.objs[q]?) → s'.objs.length = s.objs.length → KS s') : mapUpdateW Try.prog s 172 (.mp (some mi)) (.int .i64 n.num) (.ptr (some (n.kn, []))) KS := by
  obtain ⟨E, ck, m1, m2, m3, m4⟩ := h.m
  refine ⟨3, 176, Try.underlying172, keyI, rfl, ?_⟩
  simp only [m1]
  refine ⟨_, findI, ?_⟩
  have hnone : E.findIdx? (fun e => e.2.1 == n.num) = none := by
    rw [List.findIdx?_eq_none_iff]
    intro e he
    have : e.2 ∈ Ns.map (fun n => (n.num, n.kn)) := by rw [← m2]; exact List.mem_map.2 ⟨e, he, rfl⟩
    obtain ⟨p, hp, hpe⟩ := List.mem_map.1 this
    have := hf.n p hp
    rw [← hpe]; simpa using this
  rw [hnone]
  have hml : mi < s.objs.length := (List.getElem?_eq_some_iff.1 m1).1
  have ho : ∀ q o, q ≠ mi → (s.set mi o).objs[q]? = s.objs[q]? := fun q o hq => objs_setNV (Ne.symm hq)
  obtain ⟨k1, k2, k3, k4⟩ := hf.k
  refine hK _ ?_ (fun q hq => ho q _ hq) (by simp [AST.set])
  have e1 : E.map entI ++ [(ck, AV.int .i64 n.num, AV.ptr (some (n.kn, [])))] = (E ++ [(ck, n.num, n.kn)]).map entI := by rw [List.map_append]; rfl
  refine ⟨h.x.set hm, by rw [ho _ _ hj]; exact h.o, ⟨E ++ [(ck, n.num, n.kn)], ck + 1, by rw [objs_setSV hml]; exact congrArg (fun l => some (AObj.map l (ck + 1))) e1, by rw [List.map_append, List.map_append, m2]; rfl, ?_, ?_⟩, ?_, ?_, ?_, ?_, ?_, ?_, ?_, by simp⟩
  · intro e he
    rcases List.mem_append.1 he with he | he
    · have := m3 e he; omega
    · simp at he; subst he; simp
  · rw [List.map_append, List.nodup_append]
    refine ⟨m4, by simp, fun a ha b hb => ?_⟩
    obtain ⟨x, hx, rfl⟩ := List.mem_map.1 ha
    simp at hb; subst hb
    have := m3 x hx; omega
  · intro p hp
    rcases List.mem_append.1 hp with hp | hp
    · rw [ho _ _ (h.kj p hp).2.1]; exact h.n p hp
    · simp at hp; subst hp; rw [ho _ _ k2]; exact hf.o
  · intro p hp k hk
    rcases List.mem_append.1 hp with hp | hp
    · have : k ≠ mi := fun e => hd p hp (by rw [hk, e])
      rw [ho _ _ this]; exact h.d p hp k hk
    · simp at hp; subst hp
      have : k ≠ mi := fun e => hf.e.1 (by rw [hk, e])
      rw [ho _ _ this]; exact hf.d k hk
  · intro p hp
    rcases List.mem_append.1 hp with hp | hp
    · exact h.c p hp
    · simp at hp; subst hp; exact hf.c
  · rw [List.map_append, List.nodup_append]
    refine ⟨h.nn, by simp, fun a ha b hb => ?_⟩
    obtain ⟨x, hx, rfl⟩ := List.mem_map.1 ha
    simp at hb; subst hb
    exact hf.n x hx
  · rw [List.map_append, List.nodup_append]
    refine ⟨h.kd, by simp, fun a ha b hb => ?_⟩
    obtain ⟨x, hx, rfl⟩ := List.mem_map.1 ha
    simp at hb; subst hb
    exact (k4 x hx).1
  · intro p hp
    rcases List.mem_append.1 hp with hq | hp
    · refine ⟨(h.kj p hq).1, (h.kj p hq).2.1, fun x hx => ?_⟩
      rcases List.mem_append.1 hx with hx | hx
      · exact (h.kj p hq).2.2 x hx
      · simp at hx; subst hx; exact (k4 p hq).2.2
    · simp at hp; subst hp
      refine ⟨k1, k2, fun x hx => ?_⟩
      rcases List.mem_append.1 hx with hx | hx
      · exact (k4 x hx).2.1
      · simp at hx; subst hx; exact k3
  · intro p hp
    rcases List.mem_append.1 hp with hp | hp
    · exact h.ge p hp
    · simp at hp; subst hp; exact hf.g
end
end Go.Aff.L10

