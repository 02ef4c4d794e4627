import Derived.Test.YtahhjdknfhkgcaaG3
import Derived.Maps.RangeRun

set_option linter.unusedSimpArgs false
set_option linter.unusedVariables false

namespace Go.Aff

variable {g g' : G} {w w' : World} {σ σ' : AST} {P : Program}

def resOf (l : List MapEntry) (i : Nat) (r : Option Nat) : Option (Nat × Value) := r.bind fun j => (l[j]?).map fun m => (i + j, m.val)
def keysR (g : G) (w : World) (es : List (Nat × AV × AV)) (l : List MapEntry) : Prop := es.length = l.length ∧ ∀ (j : Nat) e m, es[j]? = some e → l[j]? = some m → isV g w e.2.1 m.key
theorem keysR_cons {e : Nat × AV × AV} {es : List (Nat × AV × AV)} {m : MapEntry} {l : List MapEntry} (h : keysR g w (e :: es) (m :: l)) : isV g w e.2.1 m.key ∧ keysR g w es l :=
  ⟨h.2 0 e m rfl rfl, by have := h.1; simpa using this, fun j e' m' h1 h2 => h.2 (j + 1) e' m' (by simpa using h1) (by simpa using h2)⟩
theorem res_succ {m : MapEntry} {l : List MapEntry} {i : Nat} {r : Option Nat} : resOf (m :: l) i (r.map (· + 1)) = resOf l (i + 1) r := by
  cases r with
  | none => rfl
  | some j => simp [resOf, Nat.add_assoc, Nat.add_comm 1 j]
theorem eq_run {kt : TypeId} {k k' : AV} {X Y : Value} {b : Bool} (h : eqK P kt k k' = some b) (hk : isV g w k X) (hk' : isV g w k' Y) (W : World) : (Op.equal kt X Y).run P W = .ok b W :=
  eqA_sound 40 (eqK_eqA h) hk hk' Op.maxDepth (by decide) W
theorem asking_run {kt : TypeId} {k : AV} {X : Value} (hk : isV g w k X) : ∀ {es : List (Nat × AV × AV)} {l : List MapEntry} {i : Nat} {r : Option Nat}, keysR g w es l → findE P kt k es = some r →
    ∀ W, (Instr.findAsking kt X l i).run P W = .ok (resOf l i r) W
  | [], l, i, r, hR, h, W => by
    simp only [findE, Option.some.injEq] at h; subst h
    have : l = [] := List.eq_nil_of_length_eq_zero (by have := hR.1; simpa using this.symm)
    subst this; simp [Instr.findAsking, resOf]
  | e :: es, [], i, r, hR, h, W => by have := hR.1; simp at this
  | e :: es, m :: l, i, r, hR, h, W => by
    obtain ⟨hv, hR'⟩ := keysR_cons hR
    simp only [findE] at h
    split at h
    · rename_i heq
      simp only [Option.some.injEq] at h; subst h
      simp [Instr.findAsking, eq_run heq hk hv, resOf]
    · rename_i heq
      simp only [Option.map_eq_some_iff] at h
      obtain ⟨r', h1, rfl⟩ := h
      have ih := asking_run (i := i + 1) hk hR' h1 W
      rw [res_succ]
      simp [Instr.findAsking, eq_run heq hk hv, ih]
    · cases h
theorem run_equalIn_str (W : World) (d : Nat) (t : TypeId) (a b : ByteArray) (hu : P.underlying t = some .string) : (Op.equalIn (d + 1) t (.string a) (.string b)).run P W = .ok (a == b) W := by
  simp [Op.equalIn, run_underlying hu]
theorem sameNow_run {kt : TypeId} {d : TypeDesc} (hd : P.underlying kt = some d) {X Y : Value} {b : Bool} (h : Instr.sameNow d X Y = some b) (W : World) : (Op.equal kt X Y).run P W = .ok b W := by
  unfold Instr.sameNow at h
  split at h
  · split at h
    · rename_i hk; subst hk
      simp only [Option.some.injEq] at h; subst h
      exact run_equalIn_int W 9999 kt _ _ _ _ hd
    · cases h
  · rename_i a b'
    simp only [Option.some.injEq] at h; subst h
    exact run_equalIn_str W 9999 kt _ _ hd
  · simp only [Option.some.injEq] at h; subst h
    exact run_equalIn_bool W 9999 kt _ _ hd
  · cases h
theorem now_run {kt : TypeId} {d : TypeDesc} (hd : P.underlying kt = some d) {k : AV} {X : Value} (hk : isV g w k X) : ∀ {es : List (Nat × AV × AV)} {l : List MapEntry} {i : Nat} {r : Option Nat} {q : Option (Nat × Value)}, keysR g w es l → findE P kt k es = some r →
    Instr.findNow d X l i = some q → q = resOf l i r
  | [], l, i, r, q, hR, h, hq => by
    simp only [findE, Option.some.injEq] at h; subst h
    have : l = [] := List.eq_nil_of_length_eq_zero (by have := hR.1; simpa using this.symm)
    subst this; simp [Instr.findNow] at hq; simp [resOf, hq]
  | e :: es, [], i, r, q, hR, h, hq => by have := hR.1; simp at this
  | e :: es, m :: l, i, r, q, hR, h, hq => by
    obtain ⟨hv, hR'⟩ := keysR_cons hR
    simp only [findE] at h
    simp only [Instr.findNow] at hq
    have agree : ∀ {b b' : Bool}, Instr.sameNow d X m.key = some b → eqK P kt k e.2.1 = some b' → b = b' := fun h1 h2 => by
      have e1 := sameNow_run hd h1 default
      have e2 := eq_run h2 hk hv default
      rw [e1] at e2; simpa using e2
    split at h
    · rename_i heq
      simp only [Option.some.injEq] at h; subst h
      split at hq
      · simp only [Option.some.injEq] at hq; subst hq; simp [resOf]
      · rename_i hs; have := agree hs heq; cases this
      · cases hq
    · rename_i heq
      simp only [Option.map_eq_some_iff] at h
      obtain ⟨r', h1, rfl⟩ := h
      rw [res_succ]
      split at hq
      · rename_i hs; have := agree hs heq; cases this
      · exact now_run hd hk hR' h1 hq
      · cases hq
    · cases h
theorem key_run {kt : TypeId} {d : TypeDesc} (hd : P.underlying kt = some d) {k : AV} {X : Value} (hk : isV g w k X) {es : List (Nat × AV × AV)} {l : List MapEntry} {r : Option Nat} (hR : keysR g w es l) (h : findE P kt k es = some r) (W : World) :
    (Instr.findKey kt X l).run P W = .ok (resOf l 0 r) W := by
  simp only [Instr.findKey, Sem.run_bind, run_underlying hd, Result.andThen_ok]
  split
  · rename_i q hq
    rw [now_run hd hk hR h hq]; simp
  · exact asking_run hk hR h W
theorem findE_lt {kt : TypeId} {k : AV} : ∀ {es : List (Nat × AV × AV)} {j : Nat}, findE P kt k es = some (some j) → ∃ e, es[j]? = some e ∧ eqK P kt k e.2.1 = some true
  | [], j, h => by simp [findE] at h
  | e :: es, j, h => by
    simp only [findE] at h
    split at h
    · rename_i heq
      simp at h; subst h; exact ⟨e, rfl, heq⟩
    · simp only [Option.map_eq_some_iff] at h
      obtain ⟨r', h1, h2⟩ := h
      cases r' with
      | none => simp at h2
      | some j' =>
        simp at h2; subst h2
        obtain ⟨e', h3, h4⟩ := findE_lt h1
        exact ⟨e', by simpa using h3, h4⟩
    · cases h

theorem keyOk_known {n : Nat} {t : TypeId} {x : AV} (h : keyOk P n t x = true) : x.known = true := by
  cases n with
  | zero => simp [keyOk] at h
  | succ n => simp only [keyOk] at h; split at h <;> first | rfl | cases h
theorem keyOk_desc {n : Nat} {t : TypeId} {x : AV} (h : keyOk P n t x = true) : ∃ d, P.underlying t = some d := by
  cases n with
  | zero => simp [keyOk] at h
  | succ n => simp only [keyOk] at h; split at h <;> first | exact ⟨_, by assumption⟩ | cases h
theorem relV_mp {i : Nat} {x : Value} (h : relV g w (.mp (some i)) x) : ∃ b sh, g.objs[i]? = some (b, sh) ∧ x = .map (some b) := by
  have := (relV_scalar h rfl rfl).1; simpa [relC] using this
theorem relV_mpnil {x : Value} (h : relV g w (.mp none) x) : x = .map none := by
  have := (relV_scalar h rfl rfl).1; simpa [relC] using this
theorem obj_map (hI : Inv g σ w) {i : Nat} {es : List (Nat × AV × AV)} {ck : Nat} (h : σ.objs[i]? = some (.map es ck)) {b : Nat} {sh : Shape} (hg : g.objs[i]? = some (b, sh)) :
    g.base ≤ b ∧ g.lim b = none ∧ objIn g w b sh (.map es ck) := by
  obtain ⟨b1, sh1, h1, hb, hl, hin⟩ := hI.obj i _ h rfl
  rw [hg] at h1; cases h1
  exact ⟨hb, hl, hin⟩
theorem keysR_of {b : Nat} {sh : Shape} {es : List (Nat × AV × AV)} {ck : Nat} {me : Array MapEntry} (hl : es.length = me.size)
    (he : ∀ (i : Nat) e m, es[i]? = some e → me[i]? = some m → m.born = e.1 ∧ (relC g w e.2.1 m.key.cells.toList ∧ e.2.1.isAgg = vAgg m.key) ∧ (relC g w e.2.2 m.val.cells.toList ∧ e.2.2.isAgg = vAgg m.val)) : keysR g w es me.toList :=
  ⟨by simpa using hl, fun j e m h1 h2 => (he j e m h1 (by simpa using h2)).2.1⟩
theorem zero_isV {t : TypeId} {z : AV} (h : ZeroOf P t z) : ∃ v, (∀ W, (zeroValue t).run P W = .ok v W) ∧ isV g w z v ∧ z.known = true := by
  obtain ⟨i, v, h1, h2, h3, h4, h5⟩ := h
  refine ⟨v, fun W => by simp [zeroValue, typeInfo, h1, h2], ⟨conc_rel g w h3, h4⟩, ?_⟩
  cases z <;> simp_all [conc, AV.known]
theorem okV_rel {v : AV} {x : Value} (h : isV g w v x) (ok b : Bool) : relV g w (okV ok b v) (if ok then .tuple #[x, .bool b] else x) := by
  cases ok with
  | false => exact relV_of h.1 h.2
  | true =>
    refine .inr (.inl ⟨_, _, rfl, rfl, ?_⟩)
    simp only [relVs]
    exact ⟨x, _, rfl, h.1, h.2, .bool b, [], rfl, by simp [relC, Value.cells], rfl, rfl⟩
theorem lookup_does (hI : Inv g σ w) {t : TypeId} {x k : AV} {X Y : Value} {ok : Bool} {K : AV → AST → Prop} (hx : relV g w x X) (hk : relV g w k Y) (h : lookupW P σ t x k ok (fun v => K v σ)) :
    Does P g w (Instr.lookup t X Y ok) K := by
  obtain ⟨kt, et, hu, hko, h⟩ := h
  have hkV := isV_of hk (keyOk_known hko)
  obtain ⟨d, hd⟩ := keyOk_desc hko
  have hck : ∀ emp W, (Instr.checkKey emp 10000 kt Y).run P W = .ok () W := fun emp W => keyOk_run 40 hko hkV emp 10000 (by decide) W
  split at h
  · obtain rfl := relV_mpnil hx
    obtain ⟨v, hz, hv, _⟩ := zero_isV (g := g) (w := w) h.1
    have hf := key_run hd hkV (es := []) (l := []) (r := none) ⟨rfl, by simp⟩ rfl w
    refine ⟨_, w, g, _, σ, ?_, Ev.refl _ _, hI, okV_rel hv ok false, h.2⟩
    simp [Instr.lookup, run_underlying hu, hck, hf, resOf, hz]
  · rename_i i
    obtain ⟨b, sh, hg, rfl⟩ := relV_mp hx
    split at h
    · rename_i es ck hobj
      obtain ⟨_, _, me, hm, hl, he, _, _⟩ := obj_map hI hobj hg
      obtain ⟨r, hr, h⟩ := h
      have hf := key_run hd hkV (keysR_of (b := b) (sh := sh) (ck := ck) hl he) hr w
      split at h
      · rename_i j
        obtain ⟨e, hj, _⟩ := findE_lt hr
        have hjm : j < me.size := by rw [← hl]; exact (List.getElem?_eq_some_iff.1 hj).1
        have hv := (he j e me[j] hj (Array.getElem?_eq_getElem hjm)).2.2
        refine ⟨_, w, g, _, σ, ?_, Ev.refl _ _, hI, okV_rel hv ok true, h e hj⟩
        simp [Instr.lookup, run_underlying hu, run_getObj' hm, hck, hf, resOf, hjm]
      · obtain ⟨v, hz, hv, _⟩ := zero_isV (g := g) (w := w) h.1
        refine ⟨_, w, g, _, σ, ?_, Ev.refl _ _, hI, okV_rel hv ok false, h.2⟩
        simp [Instr.lookup, run_underlying hu, run_getObj' hm, hck, hf, resOf, hz]
    · exact h.elim
  · exact h.elim
end Go.Aff

namespace Go.Aff

variable {g g' : G} {w w' : World} {σ σ' : AST} {P : Program}

structure MapR (g : G) (w : World) (es : List (Nat × AV × AV)) (me : Array MapEntry) (ck : Nat) : Prop where
  len : es.length = me.size
  each : ∀ (i : Nat) e m, es[i]? = some e → me[i]? = some m → m.born = e.1 ∧ isV g w e.2.1 m.key ∧ isV g w e.2.2 m.val
  clock : ∀ e ∈ es, e.1 < ck
  nd : (es.map (·.1)).Nodup
theorem mapR_in {b : Nat} {sh : Shape} {es : List (Nat × AV × AV)} {ck : Nat} : objIn g w b sh (.map es ck) ↔ ∃ me : Array MapEntry, w.heap[b]? = some (.map me ck) ∧ MapR g w es me ck :=
  ⟨fun ⟨me, h1, h2, h3, h4, h5⟩ => ⟨me, h1, h2, h3, h4, h5⟩, fun ⟨me, h1, h2, h3, h4, h5⟩ => ⟨me, h1, h2, h3, h4, h5⟩⟩
theorem isV_mono (h : Ev g w g' w') {v : AV} {x : Value} (hv : isV g w v x) : isV g' w' v x := ⟨relC_mono h hv.1, hv.2⟩
theorem MapR.mono (h : Ev g w g' w') {es : List (Nat × AV × AV)} {me : Array MapEntry} {ck : Nat} (r : MapR g w es me ck) : MapR g' w' es me ck :=
  ⟨r.len, fun i e m h1 h2 => ⟨(r.each i e m h1 h2).1, isV_mono h (r.each i e m h1 h2).2.1, isV_mono h (r.each i e m h1 h2).2.2⟩, r.clock, r.nd⟩
theorem modify_map_fst {j : Nat} {f : Nat × AV × AV → Nat × AV × AV} (hf : ∀ e, (f e).1 = e.1) (es : List (Nat × AV × AV)) : (es.modify j f).map (·.1) = es.map (·.1) := by
  apply List.ext_getElem?
  intro i
  simp only [List.getElem?_map, List.getElem?_modify]
  cases es[i]? with
  | none => simp
  | some e => by_cases h : j = i <;> simp [h, hf]
theorem MapR.modify {es : List (Nat × AV × AV)} {me : Array MapEntry} {ck j : Nat} (r : MapR g w es me ck) {f : Nat × AV × AV → Nat × AV × AV} {F : MapEntry → MapEntry} (hf : ∀ e, (f e).1 = e.1)
    (hF : ∀ e m, es[j]? = some e → me[j]? = some m → (F m).born = (f e).1 ∧ isV g w (f e).2.1 (F m).key ∧ isV g w (f e).2.2 (F m).val) : MapR g w (es.modify j f) (me.modify j F) ck := by
  refine ⟨by simp [r.len], fun i e m h1 h2 => ?_, fun e he => ?_, by rw [modify_map_fst hf]; exact r.nd⟩
  · rw [List.getElem?_modify] at h1
    rw [Array.getElem?_modify] at h2
    cases hes : es[i]? with
    | none => simp [hes] at h1
    | some e0 =>
    cases hme : me[i]? with
    | none => simp [hme] at h2
    | some m0 =>
    simp only [hes, Option.map_eq_map, Option.map_some, Option.some.injEq] at h1
    simp only [hme, Option.map_some] at h2
    by_cases h : j = i
    · subst h
      simp at h1 h2
      subst h1 h2
      exact hF e0 m0 hes hme
    · simp [h] at h1 h2
      subst h1 h2
      exact r.each i e0 m0 hes hme
  · have h1 : e.1 ∈ (es.modify j f).map (·.1) := List.mem_map.2 ⟨e, he, rfl⟩
    rw [modify_map_fst hf] at h1
    obtain ⟨e0, h2, h3⟩ := List.mem_map.1 h1
    rw [← h3]; exact r.clock e0 h2
theorem MapR.push {es : List (Nat × AV × AV)} {me : Array MapEntry} {ck : Nat} (r : MapR g w es me ck) {k v : AV} {m : MapEntry} (hb : m.born = ck) (hk : isV g w k m.key) (hv : isV g w v m.val) :
    MapR g w (es ++ [(ck, k, v)]) (me.push m) (ck + 1) := by
  refine ⟨by simp [r.len], fun i e m' h1 h2 => ?_, fun e he => ?_, ?_⟩
  · rw [List.getElem?_append] at h1
    rw [Array.getElem?_push] at h2
    by_cases h : i < es.length
    · rw [if_pos h] at h1; rw [if_neg (by rw [← r.len]; omega)] at h2; exact r.each i e m' h1 h2
    · rw [if_neg h] at h1
      have hi : i - es.length = 0 := by
        have := (List.getElem?_eq_some_iff.1 h1).1; simp at this; omega
      rw [if_pos (by rw [← r.len]; omega)] at h2
      rw [hi] at h1; simp at h1 h2
      subst h1 h2
      exact ⟨hb, hk, hv⟩
  · rcases List.mem_append.1 he with he | he
    · have := r.clock e he; omega
    · simp at he; subst he; simp
  · rw [List.map_append, List.nodup_append]
    refine ⟨r.nd, by simp, fun a ha b hb' => ?_⟩
    simp at hb'; subst hb'
    obtain ⟨e, he, rfl⟩ := List.mem_map.1 ha
    have := r.clock e he; omega
theorem MapR.erase {es : List (Nat × AV × AV)} {me : Array MapEntry} {ck j : Nat} (r : MapR g w es me ck) (hj : j < es.length) : MapR g w (es.eraseIdx j) (me.eraseIdxIfInBounds j) ck := by
  have hm : j < me.size := by rw [← r.len]; exact hj
  have e0 : me.eraseIdxIfInBounds j = me.eraseIdx j hm := by simp [Array.eraseIdxIfInBounds, hm]
  rw [e0]
  refine ⟨by rw [List.length_eraseIdx, if_pos hj, Array.size_eraseIdx, r.len], fun i e m h1 h2 => ?_, fun e he => r.clock e (List.mem_of_mem_eraseIdx he), ?_⟩
  · rw [List.getElem?_eraseIdx] at h1
    rw [Array.getElem?_eraseIdx] at h2
    by_cases h : i < j
    · rw [if_pos h] at h1 h2; exact r.each i e m h1 h2
    · rw [if_neg h] at h1 h2; exact r.each _ e m h1 h2
  · have : (es.eraseIdx j).map (·.1) = (es.map (·.1)).eraseIdx j := by
      apply List.ext_getElem?
      intro i
      simp only [List.getElem?_map, List.getElem?_eraseIdx]
      split <;> rfl
    rw [this]
    exact r.nd.sublist (List.eraseIdx_sublist ..)
theorem MapR.empty {ck : Nat} : MapR g w [] #[] ck := ⟨rfl, fun i e m h => by simp at h, fun e h => by simp at h, by simp⟩

theorem inv_setMap (hI : Inv g σ w) {i b ck : Nat} {sh : Shape} {es : List (Nat × AV × AV)} (hobj : σ.objs[i]? = some (.map es ck)) (hg : g.objs[i]? = some (b, sh)) {es' : List (Nat × AV × AV)} {me' : Array MapEntry} {ck' : Nat} (r : MapR g w es' me' ck') :
    Ev g w g (setBlk w b (.map me' ck')) ∧ Inv g (σ.set i (.map es' ck')) (setBlk w b (.map me' ck')) := by
  obtain ⟨hb, hlim, hin⟩ := obj_map hI hobj hg
  obtain ⟨me, hm, _⟩ := mapR_in.1 hin
  have hE := ev_obj (o := .map me' ck') hI hb hlim
  exact inv_setObj hI hobj rfl hg (mapR_in.2 ⟨me', setBlk_same (lt_of_blk hm), r.mono hE⟩)

theorem mapUpdate_does (hI : Inv g σ w) {t : TypeId} {m k v : AV} {M Y V : Value} {K : AST → Prop} (hm : relV g w m M) (hk : relV g w k Y) (hv : relV g w v V) (h : mapUpdateW P σ t m k v K) :
    DoesU P g w (Instr.mapUpdate t M Y V) K := by
  obtain ⟨kt, et, hu, hko, hvk, h⟩ := h
  have hkV := isV_of hk (keyOk_known hko)
  have hvV := isV_of hv hvk
  obtain ⟨d, hd⟩ := keyOk_desc hko
  have hck : ∀ emp W, (Instr.checkKey emp 10000 kt Y).run P W = .ok () W := fun emp W => keyOk_run 40 hko hkV emp 10000 (by decide) W
  split at h
  · rename_i i
    obtain ⟨b, sh, hg, rfl⟩ := relV_mp hm
    split at h
    · rename_i es ck hobj
      obtain ⟨hb, hlim, hin⟩ := obj_map hI hobj hg
      obtain ⟨me, hme, hR⟩ := mapR_in.1 hin
      obtain ⟨r, hr, h⟩ := h
      have hf := key_run hd hkV (keysR_of (b := b) (sh := sh) (ck := ck) hR.len hR.each) hr w
      split at h
      · rename_i j
        obtain ⟨e, hj, heq⟩ := findE_lt hr
        have hjm : j < me.size := by rw [← hR.len]; exact (List.getElem?_eq_some_iff.1 hj).1
        have he := hR.each j e me[j] hj (Array.getElem?_eq_getElem hjm)
        obtain ⟨e1, e2⟩ := same_same (keyOk_flat 40 |>.1 hko) (eqK_true heq hko ▸ he.2.1) hkV
        obtain ⟨hE, hI'⟩ := inv_setMap hI hobj hg (hR.modify (j := j) (f := fun e => (e.1, k, v)) (F := fun e => { e with key := Y, val := V }) (fun _ => rfl) fun e' m' h1 h2 => ⟨(hR.each j e' m' h1 h2).1, hkV, hvV⟩)
        refine ⟨_, g, _, ?_, hE, hI', h⟩
        have e2' : Instr.sameBits 10000 me[j].key Y = true := by rw [← e1]; exact e2
        simp [Instr.mapUpdate, run_underlying hu, run_getObj' hme, hck, hf, resOf, hjm, Instr.keyThatStays, e2', run_setObj' hme]
      · obtain ⟨hE, hI'⟩ := inv_setMap hI hobj hg (hR.push (m := { key := Y, val := V, born := ck }) rfl hkV hvV)
        refine ⟨_, g, _, ?_, hE, hI', h⟩
        simp [Instr.mapUpdate, run_underlying hu, run_getObj' hme, hck, hf, resOf, run_setObj' hme]
    · exact h.elim
  · exact h.elim

theorem mapEntry_does (hI : Inv g σ w) {t : TypeId} {m k : AV} {M Y : Value} {K : AV → AST → Prop} (hm : relV g w m M) (hk : relV g w k Y) (h : mapEntryW P σ t m k K) :
    Does P g w (Instr.mapEntry t M Y) K := by
  obtain ⟨kt, et, hu, hko, h⟩ := h
  have hkV := isV_of hk (keyOk_known hko)
  obtain ⟨d, hd⟩ := keyOk_desc hko
  have hck : ∀ emp W, (Instr.checkKey emp 10000 kt Y).run P W = .ok () W := fun emp W => keyOk_run 40 hko hkV emp 10000 (by decide) W
  have tup : ∀ {g : G} {w : World} {v : AV} {x : Value} {n : Nat}, isV g w v x → relV g w (.tuple [v, .int .i64 n]) (.tuple #[x, goInt n]) := fun h => by
    refine .inr (.inl ⟨_, _, rfl, rfl, ?_⟩)
    simp only [relVs]
    exact ⟨_, _, rfl, h.1, h.2, _, [], rfl, by simp [relC, Value.cells, goInt], rfl, rfl⟩
  split at h
  · rename_i i
    obtain ⟨b, sh, hg, rfl⟩ := relV_mp hm
    split at h
    · rename_i es ck hobj
      obtain ⟨hb, hlim, hin⟩ := obj_map hI hobj hg
      obtain ⟨me, hme, hR⟩ := mapR_in.1 hin
      obtain ⟨r, hr, h⟩ := h
      have hf := key_run hd hkV (keysR_of (b := b) (sh := sh) (ck := ck) hR.len hR.each) hr w
      split at h
      · rename_i j
        obtain ⟨e, hj, heq⟩ := findE_lt hr
        have hjm : j < me.size := by rw [← hR.len]; exact (List.getElem?_eq_some_iff.1 hj).1
        have he := hR.each j e me[j] hj (Array.getElem?_eq_getElem hjm)
        obtain ⟨e1, e2⟩ := same_same (keyOk_flat 40 |>.1 hko) (eqK_true heq hko ▸ he.2.1) hkV
        obtain ⟨hE, hI'⟩ := inv_setMap hI hobj hg (hR.modify (j := j) (f := fun e => (e.1, k, e.2.2)) (F := fun e => { e with key := Y }) (fun _ => rfl) fun e' m' h1 h2 => ⟨(hR.each j e' m' h1 h2).1, hkV, (hR.each j e' m' h1 h2).2.2⟩)
        refine ⟨_, _, g, _, _, ?_, hE, hI', tup (isV_mono hE he.2.2), h e hj⟩
        have e2' : Instr.sameBits 10000 me[j].key Y = true := by rw [← e1]; exact e2
        simp [Instr.mapEntry, run_underlying hu, run_getObj' hme, hck, hf, resOf, hjm, Instr.keyThatStays, e2', run_setObj' hme, he.1]
      · obtain ⟨v, hz, hv, _⟩ := zero_isV (g := g) (w := w) h.1
        obtain ⟨hE, hI'⟩ := inv_setMap hI hobj hg (hR.push (m := { key := Y, val := v, born := ck }) rfl hkV hv)
        refine ⟨_, _, g, _, _, ?_, hE, hI', tup (isV_mono hE hv), h.2⟩
        simp [Instr.mapEntry, run_underlying hu, run_getObj' hme, hck, hf, resOf, run_setObj' hme, hz]
    · exact h.elim
  · exact h.elim

theorem nodup_idx {es : List (Nat × AV × AV)} (h : (es.map (·.1)).Nodup) {i j : Nat} {e e' : Nat × AV × AV} (hi : es[i]? = some e) (hj : es[j]? = some e') (he : e.1 = e'.1) : i = j := by
  have h1 : (es.map (·.1))[i]? = some e.1 := by simp [hi]
  have h2 : (es.map (·.1))[j]? = some e.1 := by simp [hj, he]
  have hil := (List.getElem?_eq_some_iff.1 h1).1
  exact (List.getElem?_inj hil h).1 (by rw [h1, h2])

theorem entryStore_does (hI : Inv g σ w) {t : TypeId} {m st v : AV} {M S V : Value} {K : AST → Prop} (hm : relV g w m M) (hs : relV g w st S) (hv : relV g w v V) (h : entryStoreW σ m st v K) :
    DoesU P g w (Instr.entryStore t M S V) K := by
  obtain ⟨hvk, h⟩ := h
  have hvV := isV_of hv hvk
  split at h
  · rename_i i kk bn
    obtain ⟨b, sh, hg, rfl⟩ := relV_mp hm
    have hS := relV_int hs
    subst hS
    split at h
    · rename_i es ck hobj
      obtain ⟨hb, hlim, hin⟩ := obj_map hI hobj hg
      obtain ⟨me, hme, hR⟩ := mapR_in.1 hin
      obtain ⟨j, e, hj, hbn, h⟩ := h
      have hjm : j < me.size := by rw [← hR.len]; exact (List.getElem?_eq_some_iff.1 hj).1
      have he := hR.each j e me[j] hj (Array.getElem?_eq_getElem hjm)
      have hfind : me.findIdx? (fun e => (e.born : Int) == bn) = some j := by
        rw [Array.findIdx?_eq_some_iff_getElem]
        refine ⟨hjm, by simp [he.1, hbn], fun q hq => ?_⟩
        have hqe : q < es.length := by rw [hR.len]; omega
        have hq' := hR.each q es[q] me[q] (List.getElem?_eq_getElem hqe) (Array.getElem?_eq_getElem (by omega))
        simp only [beq_iff_eq, hq'.1]
        intro hc
        have : q = j := nodup_idx hR.nd (List.getElem?_eq_getElem hqe) hj (by omega)
        omega
      obtain ⟨hE, hI'⟩ := inv_setMap hI hobj hg (hR.modify (j := j) (f := fun e => (e.1, e.2.1, v)) (F := fun e => { e with val := V }) (fun _ => rfl) fun e' m' h1 h2 => ⟨(hR.each j e' m' h1 h2).1, (hR.each j e' m' h1 h2).2.1, hvV⟩)
      refine ⟨_, g, _, ?_, hE, hI', h⟩
      simp [Instr.entryStore, run_getObj' hme, asInt, asIntOf, hfind, run_setObj' hme]
    · exact h.elim
  · exact h.elim

theorem setMap_self {i : Nat} {o : AObj} (hobj : σ.objs[i]? = some o) : σ.set i o = σ := by
  have : σ.objs.set i o = σ.objs := by
    apply List.ext_getElem?
    intro j
    rw [List.getElem?_set]
    by_cases h : i = j
    · subst h; rw [if_pos rfl, hobj]; have := (List.getElem?_eq_some_iff.1 hobj).1; simp [this]
    · rw [if_neg h]
  simp only [AST.set, this]
theorem delete_does (hI : Inv g σ w) {ts : Array TypeId} {ty : TypeId} {m k : AV} {M Y : Value} {K : AV → AST → Prop} (hm : relV g w m M) (hk : relV g w k Y) (h : deleteW P ts m k σ (K (.tuple []))) :
    Does P g w (Builtin.delete_ ts ty #[M, Y]) K := by
  obtain ⟨t, kt, et, ht, hu, hko, h⟩ := h
  have hkV := isV_of hk (keyOk_known hko)
  obtain ⟨d, hd⟩ := keyOk_desc hko
  have hck : ∀ emp W, (Instr.checkKey emp 10000 kt Y).run P W = .ok () W := fun emp W => keyOk_run 40 hko hkV emp 10000 (by decide) W
  have tup : ∀ {g : G} {w : World}, relV g w (.tuple []) (.tuple #[]) := .inr (.inl ⟨_, _, rfl, rfl, by simp [relVs]⟩)
  split at h
  · obtain rfl := relV_mpnil hm
    refine ⟨_, w, g, _, σ, ?_, Ev.refl _ _, hI, tup, h⟩
    simp [Builtin.delete_, ht, run_underlying hu, hck]
  · rename_i i
    obtain ⟨b, sh, hg, rfl⟩ := relV_mp hm
    split at h
    · rename_i es ck hobj
      obtain ⟨hb, hlim, hin⟩ := obj_map hI hobj hg
      obtain ⟨me, hme, hR⟩ := mapR_in.1 hin
      obtain ⟨r, hr, h⟩ := h
      have hf := key_run hd hkV (keysR_of (b := b) (sh := sh) (ck := ck) hR.len hR.each) hr w
      split at h
      · rename_i j
        obtain ⟨e, hj, _⟩ := findE_lt hr
        have hje := (List.getElem?_eq_some_iff.1 hj).1
        have hjm : j < me.size := by rw [← hR.len]; exact hje
        obtain ⟨hE, hI'⟩ := inv_setMap hI hobj hg (hR.erase hje)
        refine ⟨_, _, g, _, _, ?_, hE, hI', tup, h⟩
        simp [Builtin.delete_, ht, run_underlying hu, run_getObj' hme, hck, hf, resOf, hjm, run_setObj' hme]
      · obtain ⟨hE, hI'⟩ := inv_setMap hI hobj hg hR
        rw [setMap_self hobj] at hI'
        refine ⟨_, _, g, _, σ, ?_, hE, hI', tup, h⟩
        simp [Builtin.delete_, ht, run_underlying hu, run_getObj' hme, hck, hf, resOf, run_setObj' hme]
    · exact h.elim
  · exact h.elim
theorem clear_does (hI : Inv g σ w) {ts : Array TypeId} {ty : TypeId} {m : AV} {M : Value} {K : AV → AST → Prop} (hm : relV g w m M) (h : clearW P ts m σ (K (.tuple []))) :
    Does P g w (Builtin.clear_ ts ty #[M]) K := by
  obtain ⟨⟨t, u, ht, hu⟩, h⟩ := h
  have tup : ∀ {g : G} {w : World}, relV g w (.tuple []) (.tuple #[]) := .inr (.inl ⟨_, _, rfl, rfl, by simp [relVs]⟩)
  split at h
  · obtain rfl := relV_mpnil hm
    refine ⟨_, w, g, _, σ, ?_, Ev.refl _ _, hI, tup, h⟩
    simp [Builtin.clear_, ht, run_underlying hu]
  · rename_i i
    obtain ⟨b, sh, hg, rfl⟩ := relV_mp hm
    split at h
    · rename_i es ck hobj
      obtain ⟨hb, hlim, hin⟩ := obj_map hI hobj hg
      obtain ⟨me, hme, hR⟩ := mapR_in.1 hin
      obtain ⟨hE, hI'⟩ := inv_setMap (es' := []) (me' := #[]) (ck' := ck) hI hobj hg MapR.empty
      refine ⟨_, _, g, _, _, ?_, hE, hI', tup, h⟩
      simp [Builtin.clear_, ht, run_underlying hu, run_getObj' hme, run_setObj' hme]
    · exact h.elim
  · exact h.elim
theorem makeMap_does (hI : Inv g σ w) {t : TypeId} {K : AV → AST → Prop} (h : K (.mp (some σ.objs.length)) (σ.push (.map [] 0))) : Does P g w (Instr.makeMap t none) K := by
  obtain ⟨hE, hI'⟩ := inv_push (o := .map [] 0) (B := .map #[] 0) (sh := .leaf) hI fun g' _ => mapR_in.2 ⟨#[], alloc_new, MapR.empty⟩
  refine ⟨.map (some w.heap.size), w.alloc (.map #[] 0), _, _, _, ?_, hE, hI', relV_of ?_ rfl, h⟩
  · simp [Instr.makeMap]
  · simp only [relC, Value.cells]
    exact ⟨w.heap.size, .leaf, by rw [hI.nobj]; simp, rfl⟩
end Go.Aff

namespace Go.Aff

variable {g g' : G} {w w' : World} {σ σ' : AST} {P : Program}

theorem wrap64 {n : Int} (h0 : -9223372036854775808 ≤ n) (h1 : n ≤ 9223372036854775807) : IntKind.i64.wrap n = n := by
  simp only [IntKind.wrap, IntKind.signed, IntKind.bits]
  have e : (2 : Int) ^ 64 = 18446744073709551616 := by decide
  have e' : (2 : Int) ^ (64 - 1) = 9223372036854775808 := by decide
  simp only [e, e']
  try simp
  try omega
theorem range_flat (zl : List Value) (hz : 0 < zl.length) : ∀ n : Nat, (List.range (n * zl.length)).map (fun i => zl.toArray[i % zl.length]!) = (List.replicate n zl).flatten
  | 0 => by simp
  | n + 1 => by
    rw [Nat.add_mul, Nat.one_mul, List.range_add, List.map_append, range_flat zl hz n, List.replicate_succ', List.flatten_append]
    congr 1
    simp only [List.map_map, List.flatten_cons, List.flatten_nil, List.append_nil]
    apply List.ext_getElem?
    intro i
    simp only [List.getElem?_map, List.getElem?_range]
    by_cases h : i < zl.length
    · rw [List.getElem?_range h]
      have h1 : (n * zl.length + i) % zl.length = i := by rw [Nat.mul_comm, Nat.mul_add_mod, Nat.mod_eq_of_lt h]
      simp [h1, h]
    · rw [List.getElem?_eq_none (by simp; omega), List.getElem?_eq_none (by omega)]; rfl
theorem relPs_rep {z : AV} {zl : List Value} (h : relC g w z zl) : ∀ n : Nat, relPs g w (List.replicate n z) (List.replicate n zl).flatten
  | 0 => by simp [relPs]
  | n + 1 => by
    simp only [List.replicate_succ, List.flatten_cons, relPs]
    exact ⟨zl, _, rfl, h, relPs_rep h n⟩
theorem relEs_rep {z : AV} {zl : List Value} (h : relC g w z zl) : ∀ n : Nat, relEs g w zl.length (List.replicate n z) (List.replicate n zl).flatten
  | 0 => by simp [relEs]
  | n + 1 => by
    simp only [List.replicate_succ, List.flatten_cons, relEs]
    exact ⟨zl, _, rfl, rfl, h, relEs_rep h n⟩
theorem makeSlice_does (hI : Inv g σ w) {t : TypeId} {n c : AV} {N C : Value} {K : AV → AST → Prop} (hn : relV g w n N) (hc : relV g w c C) (h : makeSliceW P t n c σ K) : Does P g w (Instr.makeSlice t N C) K := by
  unfold makeSliceW at h
  split at h
  · rename_i a b
    obtain rfl := relV_int hn
    obtain rfl := relV_int hc
    obtain ⟨h0, hab, e, z, hu, hz, hpos, hroom, hbm, h⟩ := h
    obtain ⟨i, zv, hi, hzv, hconc, hag, hsz⟩ := hz
    have hcellsz : zv.cells.size = P.cellsOf e := by
      have := relC_size (conc_rel g w hconc)
      simp only [Array.length_toList] at this
      rw [this, ← hsz]; simp [Program.cellsOf, hi]
    have hib : i.bytes = P.bytesOf e := by simp [Program.bytesOf, hi]
    have his : i.size = P.cellsOf e := by simp [Program.cellsOf, hi]
    have hzr : ∀ W, (zeroValue e).run P W = .ok zv W := fun W => by simp [zeroValue, typeInfo, hi, hzv]
    have wa : IntKind.i64.wrap a = a := wrap64 (by omega) (by omega)
    have wb : IntKind.i64.wrap b = b := wrap64 (by omega) (by omega)
    have hbn : (b.toNat : Int) = b := Int.toNat_of_nonneg (by omega)
    have hbb : (P.bytesOf e : Int) * b ≤ 16777216 := by
      have e1 : (P.bytesOf e : Int) * b = ((b.toNat * P.bytesOf e : Nat) : Int) := by rw [Int.natCast_mul, hbn, Int.mul_comm]
      rw [e1]; omega
    let cells : Array Value := (Array.range (b.toNat * P.cellsOf e)).map (zv.cells[· % zv.cells.size]!)
    have hcl : cells.toList = (List.replicate b.toNat zv.cells.toList).flatten := by
      have := range_flat zv.cells.toList (by simp [hcellsz, hpos]) b.toNat
      rw [← this]
      simp [cells, hcellsz, Array.toList_range]
    have hcs : cells.size = b.toNat * P.cellsOf e := by simp [cells]
    have hrun : (Instr.makeSlice t (.int .i64 a) (.int .i64 b)).run P w = .ok (.slice (some ⟨w.heap.size, 0, none⟩) a.toNat b.toNat) (w.alloc (.cells cells e)) := by
      have n1 : ¬ (b < 0 ∨ (2 ^ 48 : Int) < i.bytes * b) := by rw [hib]; omega
      have n2 : ¬ a < 0 := by omega
      have n3 : ¬ b < a := by omega
      have n4 : ¬ b < 0 := by omega
      have n5 : ¬ ((2 ^ 48 : Int) < i.bytes * b) := fun h => n1 (.inr h)
      have n6 : ¬ (b.toNat * i.bytes > roomBytes) := by rw [hib]; unfold roomBytes; omega
      by_cases hz0 : b.toNat * P.cellsOf e = 0
      · have hce : cells = #[] := by apply Array.eq_empty_of_size_eq_zero; omega
        have hb0 : b.toNat = 0 := by
          rcases Nat.mul_eq_zero.1 hz0 with h | h
          · exact h
          · omega
        have hbz : b = 0 := by omega
        subst hbz
        have haz : a = 0 := by omega
        subst haz
        have e0 : ∀ f : Nat → Value, Array.map f (Array.range 0) = #[] := fun f => by apply Array.ext'; simp
        simp [Instr.makeSlice, run_underlying hu, asInt, asIntOf, typeInfo, hi, wa, wb, askRoom, newRow, sizeOf, his, e0, hce]
      · simp [Instr.makeSlice, run_underlying hu, asInt, asIntOf, typeInfo, hi, wa, wb, n2, n3, n4, n5, n6, askRoom, sizeOf, his, hz0, hzr, newRow]
        rw [if_neg (by rw [hib]; omega)]
    have main : ∀ tk : Tk, tk = .full → a = b → K (.slice tk (List.replicate a.toNat z)) σ → Does P g w (Instr.makeSlice t (.int .i64 a) (.int .i64 b)) K := by
      rintro tk rfl rfl hK
      have hes := relEs_rep (conc_rel g w hconc) a.toNat
      rw [← hcl] at hes
      obtain ⟨hE, hI'⟩ := inv_row (c := cells) (e := e) (fr := (0, 0)) (n := cells.size) hI (Nat.le_refl _)
      refine ⟨_, _, _, _, σ, hrun, hE, hI', relV_of ?_ rfl, hK⟩
      simp only [relC, Value.cells]
      refine ⟨some (mkAddr (w.heap.size, 0)), some (w.heap.size, 0), a.toNat, zv.cells.toList.length, cells.toList, by simp [mkAddr], .inl rfl, relEs_mono hE hes, by simp, by unfold maxL; omega, (fun h => by cases h), (fun b o hbo => .inr ?_), ?_⟩
      · simp only [Option.some.injEq, Prod.mk.injEq] at hbo
        obtain ⟨rfl, rfl⟩ := hbo
        exact ⟨⟨cells, e, (0, 0), alloc_new, fun j hj => by simp⟩, .inr ⟨cells.size, by simp [G.row], by simp⟩⟩
      · simp [tkOk]
    rcases h with ⟨rfl, hK⟩ | ⟨rfl, hK⟩ | ⟨rfl, hK⟩
    · have hps := relPs_rep (conc_rel g w hconc) a.toNat
      rw [← hcl] at hps
      have hin : ∀ g', Ev g w g' (w.alloc (.cells cells e)) → objIn g' (w.alloc (.cells cells e)) w.heap.size (AV.agg (List.replicate a.toNat z)).shape (.cells (.agg (List.replicate a.toNat z))) :=
        fun g' hE => ⟨_, _, _, alloc_new, .inl rfl, relC_mono hE (by simp only [relC]; exact hps), rfl⟩
      obtain ⟨hE, hI'⟩ := inv_push hI hin
      refine ⟨_, _, _, .arr σ.objs.length [] a.toNat, _, hrun, hE, hI', relV_of ?_ rfl, hK⟩
      simp only [relC, Value.cells]
      exact ⟨w.heap.size, (AV.agg (List.replicate a.toNat z)).shape, 0, a.toNat, by rw [hI.nobj]; simp, by simp [AV.shape, Shape.off], rfl, Nat.le_refl _, by unfold maxL; omega⟩
    · exact main .full rfl rfl hK
    · obtain ⟨hE1, hI1⟩ := inv_row (c := cells) (e := e) (fr := (0, 0)) (n := 0) hI (Nat.zero_le _)
      obtain ⟨hE2, hI2⟩ := inv_tok hI1 ⟨some (w.heap.size, 0), 0, b.toNat, P.cellsOf e⟩ (Nat.zero_le _) (by simp only; unfold maxL; omega) (by simp) (by
        intro b' o' hbo hlt
        simp only [Option.some.injEq, Prod.mk.injEq] at hbo
        obtain ⟨rfl, rfl⟩ := hbo
        refine ⟨by simp [G.row], ⟨cells, e, (0, 0), alloc_new, by simp [hcs], .inl rfl⟩, ?_⟩
        intro t' e' ht o'' ha hlt'
        obtain ⟨_, _, _, _, h5⟩ := hI.tok t' e' ht
        obtain ⟨_, c2, el2, fr2, hc2, _⟩ := h5 _ _ ha hlt'
        have := lt_of_blk hc2
        omega)
      refine ⟨_, _, _, .slice (.own σ.toks.length) [], _, hrun, hE1.trans hE2, hI2, relV_of ?_ rfl, hK⟩
      simp only [relC, Value.cells]
      refine ⟨some (mkAddr (w.heap.size, 0)), some (w.heap.size, 0), b.toNat, P.cellsOf e, [], by simp [mkAddr], .inl rfl, by simp [relEs], by simp, by unfold maxL; omega, (fun h => by cases h), (fun b o hbo => .inl rfl), ?_⟩
      exact ⟨⟨some (w.heap.size, 0), 0, b.toNat, P.cellsOf e⟩, by rw [hI.ntok]; simp [G.row], by simp, fun _ => ⟨rfl, rfl⟩, .inl rfl⟩
  · exact h.elim

/-! ### Weaker ends -/
theorem lookupW_mono {t : TypeId} {x k : AV} {ok : Bool} {K K' : AV → Prop} (hk : ∀ v, K v → K' v) (h : lookupW P σ t x k ok K) : lookupW P σ t x k ok K' := by
  obtain ⟨kt, et, h1, h2, h⟩ := h
  refine ⟨kt, et, h1, h2, ?_⟩
  split at h
  · exact ⟨h.1, hk _ h.2⟩
  · rename_i i
    cases ho : σ.objs[i]? with
    | none => simp [ho] at h
    | some o =>
      cases o with
      | map es ck =>
        simp only [ho] at h ⊢
        obtain ⟨r, hr, h⟩ := h
        refine ⟨r, hr, ?_⟩
        cases r with
        | none => exact ⟨h.1, hk _ h.2⟩
        | some j => exact fun e he => hk _ (h e he)
      | _ => simp [ho] at h
  · exact h.elim
theorem mapUpdateW_mono {t : TypeId} {m k v : AV} {K K' : AST → Prop} (hk : ∀ s, K s → K' s) (h : mapUpdateW P σ t m k v K) : mapUpdateW P σ t m k v K' := by
  obtain ⟨kt, et, h1, h2, h3, h⟩ := h
  refine ⟨kt, et, h1, h2, h3, ?_⟩
  split at h
  · rename_i i
    cases ho : σ.objs[i]? with
    | none => simp [ho] at h
    | some o =>
      cases o with
      | map es ck =>
        simp only [ho] at h ⊢
        obtain ⟨r, hr, h⟩ := h
        refine ⟨r, hr, ?_⟩
        cases r with
        | none => exact hk _ h
        | some j => exact hk _ h
      | _ => simp [ho] at h
  · exact h.elim
theorem mapEntryW_mono {t : TypeId} {m k : AV} {K K' : AV → AST → Prop} (hk : ∀ v s, K v s → K' v s) (h : mapEntryW P σ t m k K) : mapEntryW P σ t m k K' := by
  obtain ⟨kt, et, h1, h2, h⟩ := h
  refine ⟨kt, et, h1, h2, ?_⟩
  split at h
  · rename_i i
    cases ho : σ.objs[i]? with
    | none => simp [ho] at h
    | some o =>
      cases o with
      | map es ck =>
        simp only [ho] at h ⊢
        obtain ⟨r, hr, h⟩ := h
        refine ⟨r, hr, ?_⟩
        cases r with
        | none => exact ⟨h.1, hk _ _ h.2⟩
        | some j => exact fun e he => hk _ _ (h e he)
      | _ => simp [ho] at h
  · exact h.elim
theorem entryStoreW_mono {m st v : AV} {K K' : AST → Prop} (hk : ∀ s, K s → K' s) (h : entryStoreW σ m st v K) : entryStoreW σ m st v K' := by
  obtain ⟨h1, h⟩ := h
  refine ⟨h1, ?_⟩
  split at h
  · rename_i i k b
    cases ho : σ.objs[i]? with
    | none => simp [ho] at h
    | some o =>
      cases o with
      | map es ck =>
        simp only [ho] at h ⊢
        obtain ⟨j, e, h2, h3, h4⟩ := h
        exact ⟨j, e, h2, h3, hk _ h4⟩
      | _ => simp [ho] at h
  · exact h.elim
theorem deleteW_mono {ts : Array TypeId} {m k : AV} {K K' : AST → Prop} (hk : ∀ s, K s → K' s) (h : deleteW P ts m k σ K) : deleteW P ts m k σ K' := by
  obtain ⟨t, kt, et, h0, h1, h2, h⟩ := h
  refine ⟨t, kt, et, h0, h1, h2, ?_⟩
  split at h
  · exact hk _ h
  · rename_i i
    cases ho : σ.objs[i]? with
    | none => simp [ho] at h
    | some o =>
      cases o with
      | map es ck =>
        simp only [ho] at h ⊢
        obtain ⟨r, hr, h⟩ := h
        refine ⟨r, hr, ?_⟩
        cases r with
        | none => exact hk _ h
        | some j => exact hk _ h
      | _ => simp [ho] at h
  · exact h.elim
theorem clearW_mono {ts : Array TypeId} {m : AV} {K K' : AST → Prop} (hk : ∀ s, K s → K' s) (h : clearW P ts m σ K) : clearW P ts m σ K' := by
  obtain ⟨h0, h⟩ := h
  refine ⟨h0, ?_⟩
  split at h
  · exact hk _ h
  · rename_i i
    cases ho : σ.objs[i]? with
    | none => simp [ho] at h
    | some o =>
      cases o with
      | map es ck => simp only [ho] at h ⊢; exact hk _ h
      | _ => simp [ho] at h
  · exact h.elim
theorem makeSliceW_mono {t : TypeId} {n c : AV} {K K' : AV → AST → Prop} (hk : ∀ v s, K v s → K' v s) (h : makeSliceW P t n c σ K) : makeSliceW P t n c σ K' := by
  unfold makeSliceW at h ⊢
  split at h
  · obtain ⟨h0, h1, e, z, h2, h3, h4, h5, h6, h⟩ := h
    refine ⟨h0, h1, e, z, h2, h3, h4, h5, h6, ?_⟩
    exact h.imp (fun h => ⟨h.1, hk _ _ h.2⟩) fun h => h.imp (fun h => ⟨h.1, hk _ _ h.2⟩) fun h => ⟨h.1, hk _ _ h.2⟩
  · exact h.elim
end Go.Aff

namespace Go.Aff

variable {g g' : G} {w w' : World} {σ σ' : AST} {P : Program}

abbrev iterO (l b i since : Nat) (seen : Array Nat) (last : Nat) : AObj := .pin l (.mapIter (some b) since seen last) [.mp (some i)] [.map (some b)]

def rangeW (P : Program) (σ : AST) (t : TypeId) (x : AV) (K : AV → AST → Prop) : Prop := (∃ kt et, P.underlying t = some (.map kt et)) ∧ match x with
  | .mp (some i) => match σ.objs[i]? with
    | some (.map es ck) => ∀ l b, K (.ptr (some (σ.objs.length, []))) (σ.push (iterO l b i ck #[] ck))
    | _ => False
  | _ => False
def nextW (σ : AST) (x : AV) (s : Bool) (K : AV → AST → Prop) : Prop := s = false ∧ ∃ j l b i since seen last es ck, x = .ptr (some (j, [])) ∧ σ.objs[j]? = some (iterO l b i since seen last) ∧ σ.objs[i]? = some (.map es ck) ∧
  (∀ e ∈ es, e.1 < since) ∧ since ≤ last ∧ (∀ e ∈ es, ¬ e.1 ∈ seen → K (.tuple [.bool true, e.2.1, e.2.2]) (σ.set j (iterO l b i since (seen.push e.1) ck))) ∧ ((∀ e ∈ es, e.1 ∈ seen) → K (.tuple [.bool false]) σ)
def entryW (σ : AST) (x : AV) (K : AV → Prop) : Prop := ∃ j l b i since, ∃ seen : Array Nat, ∃ (es : List (Nat × AV × AV)) (e : Nat × AV × AV) (ck : Nat), x = .ptr (some (j, [])) ∧ σ.objs[j]? = some (iterO l b i since (seen.push e.1) ck) ∧ σ.objs[i]? = some (.map es ck) ∧ e ∈ es ∧ K (.tuple [e.2.1, e.2.2])

theorem range_does (hI : Inv g σ w) {t : TypeId} {x : AV} {X : Value} {K : AV → AST → Prop} (hx : relV g w x X) (h : rangeW P σ t x K) : Does P g w (Instr.range t X) K := by
  obtain ⟨⟨kt, et, hu⟩, h⟩ := h
  split at h
  · rename_i i
    obtain ⟨b, sh, hg, rfl⟩ := relV_mp hx
    split at h
    · rename_i es ck hobj
      obtain ⟨hb, hlim, hin⟩ := obj_map hI hobj hg
      obtain ⟨me, hme, hR⟩ := mapR_in.1 hin
      obtain ⟨hE, hI'⟩ := inv_push (o := iterO w.heap.size b i ck #[] ck) (B := .mapIter (some b) ck #[] ck) (sh := .leaf) hI fun g' hE => ⟨rfl, alloc_new, fun q v x h1 h2 => by
        cases q with
        | zero =>
          simp at h1 h2; subst h1 h2
          refine .inr ⟨?_, rfl⟩
          simp only [relC, Value.cells]
          exact ⟨b, sh, hE.objs _ _ hg, rfl⟩
        | succ q => simp at h1⟩
      refine ⟨_, _, _, _, _, run_range_map w t kt et b me ck hu hme, hE, hI', relV_of ?_ rfl, h _ _⟩
      simp only [relC, Value.cells]
      exact ⟨w.heap.size, .leaf, 0, by rw [hI.nobj]; simp, by simp [Shape.off], rfl⟩
    · exact h.elim
  · exact h.elim

theorem iter_in (hI : Inv g σ w) {j l b i since last ck : Nat} {seen : Array Nat} {es : List (Nat × AV × AV)} {X : Value} (hx : relV g w (.ptr (some (j, []))) X) (hj : σ.objs[j]? = some (iterO l b i since seen last)) (hi : σ.objs[i]? = some (.map es ck)) :
    X = .pointer (some ⟨l, 0, none⟩) ∧ w.heap[l]? = some (.mapIter (some b) since seen last) ∧ ∃ me : Array MapEntry, w.heap[b]? = some (.map me ck) ∧ MapR g w es me ck := by
  obtain ⟨b', sh, o, hgj, ho, rfl⟩ := relV_ptr hx
  obtain ⟨bb, sh', hg', hb, hl, hin⟩ := hI.obj j _ hj rfl
  rw [hgj] at hg'; cases hg'
  obtain ⟨rfl, hblk, hr⟩ := hin
  have ho0 : o = 0 := by cases sh <;> simp [Shape.off] at ho <;> omega
  subst ho0
  have hrm := (hr 0 _ _ rfl rfl).resolve_left (fun h => by cases h)
  obtain ⟨hrm, _⟩ := hrm
  simp only [relC, Value.cells] at hrm
  obtain ⟨b2, sh2, hgi, e⟩ := hrm
  simp at e; subst e
  obtain ⟨_, _, hin⟩ := obj_map hI hi hgi
  obtain ⟨me, hme, hR⟩ := mapR_in.1 hin
  exact ⟨rfl, hblk, me, hme, hR⟩
theorem MapR.mem {es : List (Nat × AV × AV)} {me : Array MapEntry} {ck : Nat} (r : MapR g w es me ck) {m : MapEntry} (h : m ∈ me.toList) : ∃ e ∈ es, m.born = e.1 ∧ isV g w e.2.1 m.key ∧ isV g w e.2.2 m.val := by
  obtain ⟨i, hi, rfl⟩ := List.mem_iff_getElem.1 h
  have hl : i < es.length := by rw [r.len]; simpa using hi
  exact ⟨es[i], List.getElem_mem hl, r.each i _ _ (List.getElem?_eq_getElem hl) (by simp at hi; simp [hi])⟩
theorem MapR.mem' {es : List (Nat × AV × AV)} {me : Array MapEntry} {ck : Nat} (r : MapR g w es me ck) {e : Nat × AV × AV} (h : e ∈ es) : ∃ m ∈ me.toList, m.born = e.1 ∧ isV g w e.2.1 m.key ∧ isV g w e.2.2 m.val := by
  obtain ⟨i, hi, rfl⟩ := List.mem_iff_getElem.1 h
  have hl : i < me.size := by rw [← r.len]; exact hi
  exact ⟨me[i], by simp, r.each i _ _ (List.getElem?_eq_getElem hi) (by simp [hl])⟩

theorem next_does (hI : Inv g σ w) {x : AV} {X : Value} {s : Bool} {ty : TypeId} {K : AV → AST → Prop} (hx : relV g w x X) (h : nextW σ x s K) : Does P g w (Instr.next X s ty) K := by
  obtain ⟨rfl, j, l, b, i, since, seen, last, es, ck, rfl, hj, hi, hold, hsc, h1, h2⟩ := h
  obtain ⟨rfl, hblk, me, hme, hR⟩ := iter_in hI hx hj hi
  have holdm : ∀ x ∈ me.toList, x.born < since := fun m hm => by
    obtain ⟨e, he, hb, _⟩ := hR.mem hm
    rw [hb]; exact hold e he
  rcases run_next_at (P := P) w ty l b since last seen me ck hblk hme holdm hsc with ⟨h0, hrun⟩ | ⟨m, hm, w1, hw1, hrun⟩
  · refine ⟨_, w, g, .tuple [.bool false], σ, hrun, Ev.refl _ _, hI, .inr (.inl ⟨_, _, rfl, rfl, by simp only [relVs]; exact ⟨_, [], rfl, by simp [relC, Value.cells], rfl, rfl⟩⟩), h2 fun e he => ?_⟩
    obtain ⟨m, hm, hb, _⟩ := hR.mem' he
    have hle : leftOf me seen = #[] := Array.eq_empty_of_size_eq_zero h0
    unfold leftOf at hle
    rw [Array.filter_eq_empty_iff] at hle
    have := hle m (by simpa using hm)
    rw [← hb]
    simpa using this
  · unfold leftOf at hm
    simp only [Array.toList_filter, List.mem_filter] at hm
    obtain ⟨hm, hns⟩ := hm
    obtain ⟨e, he, hb, hk, hv⟩ := hR.mem hm
    have hns' : ¬ e.1 ∈ seen := by rw [← hb]; simpa using hns
    have hI1 : Inv g σ w1 ∧ Ev g w g w1 ∧ w1.heap = w.heap := by
      rcases hw1 with rfl | rfl
      · exact ⟨hI, Ev.refl _ _, rfl⟩
      · exact ⟨inv_drew hI, ev_drew g w, rfl⟩
    obtain ⟨hI1, hE1, hheap⟩ := hI1
    obtain ⟨bb, sh', hg', hbase, hl, hin⟩ := hI1.obj j _ hj rfl
    obtain ⟨rfl, hblk1, hr⟩ := hin
    have hlt : bb < w1.heap.size := lt_of_blk hblk1
    obtain ⟨hE2, hI2⟩ := inv_setObj (o' := iterO bb b i since (seen.push e.1) ck) (B := .mapIter (some b) since (seen.push e.1) ck) hI1 hj rfl hg' ⟨rfl, setBlk_same hlt, fun q v x h3 h4 => (hr q v x h3 h4).imp id fun ⟨p, q⟩ => ⟨relC_mono (ev_obj hI1 hbase hl) p, q⟩⟩
    have hE := hE1.trans hE2
    rw [hb] at hrun
    refine ⟨_, _, _, .tuple [.bool true, e.2.1, e.2.2], _, hrun, hE, hI2, .inr (.inl ⟨_, _, rfl, rfl, ?_⟩), h1 e he hns'⟩
    have k1 := isV_mono hE hk
    have v1 := isV_mono hE hv
    simp only [relVs]
    exact ⟨_, _, rfl, by simp [relC, Value.cells], rfl, _, _, rfl, k1.1, k1.2, _, [], rfl, v1.1, v1.2, rfl⟩

theorem entry_does (hI : Inv g σ w) {x : AV} {X : Value} {K : AV → AST → Prop} (hx : relV g w x X) (h : entryW σ x fun v => K v σ) : Does P g w (Instr.entry X) K := by
  obtain ⟨j, l, b, i, since, seen, es, e, ck, rfl, hj, hi, he, hK⟩ := h
  obtain ⟨rfl, hblk, me, hme, hR⟩ := iter_in hI hx hj hi
  obtain ⟨m, hm, hb, hk, hv⟩ := hR.mem' he
  have hn : (me.toList.map (·.born)).Nodup := by
    have : me.toList.map (·.born) = es.map (·.1) := by
      apply List.ext_getElem?
      intro q
      simp only [List.getElem?_map]
      have hlen := hR.len
      by_cases hq : q < es.length
      · have hq' : q < me.size := by omega
        have := (hR.each q es[q] me[q] (List.getElem?_eq_getElem hq) (by simp [hq'])).1
        simp [hq, hq', this]
      · simp [hq, show ¬ q < me.size by omega]
    rw [this]; exact hR.nd
  have hrun := run_entry_at (P := P) w l b since seen me ck m (by rw [hb]; exact hblk) hme hm hn
  refine ⟨_, w, g, .tuple [e.2.1, e.2.2], σ, hrun, Ev.refl _ _, hI, .inr (.inl ⟨_, _, rfl, rfl, ?_⟩), hK⟩
  simp only [relVs]
  exact ⟨_, _, rfl, hk.1, hk.2, _, [], rfl, hv.1, hv.2, rfl⟩

theorem rangeW_mono {t : TypeId} {x : AV} {K K' : AV → AST → Prop} (hk : ∀ v s, K v s → K' v s) (h : rangeW P σ t x K) : rangeW P σ t x K' := by
  obtain ⟨h0, h⟩ := h
  refine ⟨h0, ?_⟩
  split at h
  · rename_i i
    cases ho : σ.objs[i]? with
    | none => simp [ho] at h
    | some o =>
      cases o with
      | map es ck => simp only [ho] at h ⊢; exact fun l b => hk _ _ (h l b)
      | _ => simp [ho] at h
  · exact h.elim
theorem nextW_mono {x : AV} {s : Bool} {K K' : AV → AST → Prop} (hk : ∀ v s, K v s → K' v s) (h : nextW σ x s K) : nextW σ x s K' := by
  obtain ⟨h0, j, l, b, i, since, seen, last, es, ck, hx, hj, hi, hold, hsc, h1, h2⟩ := h
  exact ⟨h0, j, l, b, i, since, seen, last, es, ck, hx, hj, hi, hold, hsc, fun e he hn => hk _ _ (h1 e he hn), fun h => hk _ _ (h2 h)⟩
theorem entryW_mono {x : AV} {K K' : AV → Prop} (hk : ∀ v, K v → K' v) (h : entryW σ x K) : entryW σ x K' := by
  obtain ⟨j, l, b, i, since, seen, es, e, ck, hx, hj, hi, he, hK⟩ := h
  exact ⟨j, l, b, i, since, seen, es, e, ck, hx, hj, hi, he, hk _ hK⟩
end Go.Aff

namespace Go.Aff

variable {g g' : G} {w w' : World} {σ σ' : AST} {P : Program}

def methodIs (P : Program) (t : TypeId) (m : String) (f : FuncId) : Prop :=
  (∃ i row, P.info? t = some i ∧ i.methods.find? (·.name == m) = some row ∧ row.path.toList = [] ∧ row.func = some (f, false)) ∧ ∃ d, P.underlying t = some d ∧ ∀ e, d ≠ .pointer e
theorem method_run {t : TypeId} {m : String} {f : FuncId} (h : methodIs P t m f) (n : Nat) (v : Value) (w : World) : (method (n + 1) t v m).run P w = .ok (f, v) w := by
  obtain ⟨⟨i, row, h1, h2, h3, h4⟩, d, h5, h6⟩ := h
  simp only [method, typeInfo, Sem.run_bind, run_program, Result.andThen_ok, h1, h2, h3, h4, follow, Sem.run_pure, receiverAt, run_underlying h5]
  cases d <;> first | exact absurd rfl (h6 _) | simp [Place.get]

def callW (P : Program) (ρ : Operand → AV) (c : Call) (σ : AST) (K : AV → AST → Prop) : Prop := match c.callee with
  | .builtin .append => match c.args.toList with
    | [s, x] => appendW P c.argTypes (ρ s) (ρ x) σ K
    | _ => False
  | .builtin .len => match c.args.toList with
    | [x] => lenW P σ c.argTypes (ρ x) fun v => K v σ
    | _ => False
  | .builtin .copy => match c.args.toList with
    | [x, y] => copyW P c.argTypes (ρ x) (ρ y) σ K
    | _ => False
  | .builtin .max => mmW true (c.args.toList.map ρ) fun v => K v σ
  | .builtin .min => mmW false (c.args.toList.map ρ) fun v => K v σ
  | .builtin .delete => match c.args.toList with
    | [x, y] => deleteW P c.argTypes (ρ x) (ρ y) σ (K (.tuple []))
    | _ => False
  | .builtin .clear => match c.args.toList with
    | [x] => clearW P c.argTypes (ρ x) σ (K (.tuple []))
    | _ => False
  | .value f => match ρ f with
    | .fn (.func k) first cap => TCalls P k (first ++ c.args.toList.map ρ ++ cap) σ K
    | .fn (.yield l) [] [] => YCalls P l (c.args.toList.map ρ) σ K
    | _ => False
  | .invoke r m => match ρ r with
    | .iface t v => ∃ f, methodIs P t m f ∧ TCalls P f (v :: c.args.toList.map ρ) σ K
    | _ => False
  | _ => False

def opW (P : Program) (ρ : Operand → AV) (o : Oper) (σ : AST) (K : AV → AST → Prop) : Prop := match o.op with
  | .move x => K (ρ x) σ
  | .assign x => K (ρ x) σ
  | .pick c a b => boolW (ρ c) (K (ρ a) σ) (K (ρ b) σ)
  | .alloc e => ZeroOf P e (zeroA P 12 e) ∧ K (.ptr (some (σ.objs.length, []))) (σ.push (.cells (zeroA P 12 e)))
  | .box e x => (ρ x).known = true ∧ K (.ptr (some (σ.objs.length, []))) (σ.push (.cells (ρ x)))
  | .build t ps => ZeroOf P t (zeroA P 12 t) ∧ (zeroA P 12 t).isAgg = true ∧ Built P t ∧ fillW P t (ps.toList.map fun p => (p.1, ρ p.2)) (zeroA P 12 t) fun v => K v σ
  | .buildSlice t n ps => buildSliceW P t n (ps.toList.map fun p => (p.1, ρ p.2)) fun v => K v σ
  | .load t a => loadW P σ t (ρ a) fun v => K v σ
  | .store t a x => storeW P σ t (ρ a) (ρ x) fun σ' => K .undef σ'
  | .nilCheck x => match ρ x with
    | .ptr (some q) => K (.ptr (some q)) σ
    | .eptr v => K (.eptr v) σ
    | .fn (.func f) a b => K (.fn (.func f) a b) σ
    | _ => False
  | .binOp op t x y _ => binW P op t (ρ x) (ρ y) fun v => K v σ
  | .unOp op _ x => unW op (ρ x) fun v => K v σ
  | .convert s d x => convW P s d (ρ x) σ K
  | .makeInterface t x => (∃ d, P.underlying t = some d ∧ ∀ ms, d ≠ .interface ms) ∧ (ρ x).known = true ∧ K (.iface t (ρ x)) σ
  | .makeFunc f first cap => (∀ x ∈ first.toList ++ cap.toList, (ρ x).known = true) ∧ K (.fn f (first.toList.map ρ) (cap.toList.map ρ)) σ
  | .slice t x lo hi mx => sliceW P t (ρ x) (lo.map ρ) (hi.map ρ) (mx.map ρ) fun v => K v σ
  | .fieldAddr t x i => (∃ fs, P.underlying t = some (.struct fs)) ∧ fieldAddrW P σ t (ρ x) i fun v => K v σ
  | .field t x i => (∃ fs, P.underlying t = some (.struct fs)) ∧ fieldW P t (ρ x) i fun v => K v σ
  | .indexAddr t x i => indexAddrW P σ t (ρ x) (ρ i) fun v => K v σ
  | .index t x i => indexW P t (ρ x) (ρ i) fun v => K v σ
  | .extract x i => match ρ x with
    | .tuple vs => match vs[i]? with
      | some v => K v σ
      | none => False
    | _ => False
  | .lookup t x k ok => lookupW P σ t (ρ x) (ρ k) ok fun v => K v σ
  | .mapUpdate t m k v => mapUpdateW P σ t (ρ m) (ρ k) (ρ v) (K .undef)
  | .mapEntry t m k => mapEntryW P σ t (ρ m) (ρ k) K
  | .entryStore _ m st v => entryStoreW σ (ρ m) (ρ st) (ρ v) (K .undef)
  | .makeMap _ none => K (.mp (some σ.objs.length)) (σ.push (.map [] 0))
  | .makeSlice t n c => makeSliceW P t (ρ n) (ρ c) σ K
  | .range t x => rangeW P σ t (ρ x) K
  | .next x s => nextW σ (ρ x) s K
  | .entry x => entryW σ (ρ x) fun v => K v σ
  | .call c => callW P ρ c σ K
  | _ => False

abbrev FR (r : Option Nat) : Fence := { fn := fun _ => True, depth := none, alive := false, round := r }
theorem calls_in {r : Option Nat} {f : FuncId} {xs : Array Value} {R : Ending → World → Prop} {n : Nat} (h : Calls P f xs w R) : CallsIn (FR r) n P f xs w R := by
  have h1 : CallsIn Fence.wide n P f xs w R := callsIn_wide.2 h
  exact h1
theorem round_in {r : Option Nat} {l : Nat} {f : FuncId} {tmps : Array Value} {assign body : Code} {R : Ending → World → Prop} {n : Nat} (h : RoundIn Fence.wide n P l f tmps assign body w R) : RoundIn (FR r) n P l f tmps assign body w R := h

theorem upon_does {r : Option Nat} {o : Oper} {a : Act} {next : Act → World → Prop} {Q : Exit → Act → World → Prop} {s : Sem Value} {K : AV → AST → Prop} (h : Does P g w s K)
    (hn : ∀ g' w' v x σ', Ev g w g' w' → Inv g' σ' w' → relV g' w' v x → K v σ' → next (a.put o.dst x) w') :
    o.uponIn (FR r) 0 P a next Q (((do pure (.value (← s))) : Sem Next).run P w) := by
  obtain ⟨x, w', g', v, σ', hrun, hE, hI, hr, hK⟩ := h
  simp only [Sem.run_bind, hrun, Result.andThen_ok, Sem.run_pure]
  exact hn g' w' v x σ' hE hI hr hK

theorem mem_rel {ρ : Operand → AV} {r : Operand → Value} (hρ : ∀ x, relV g w (ρ x) (r x)) : ∀ {l : List Operand}, (∀ x ∈ l, (ρ x).known = true) → relVs g w (l.map ρ) (l.map r)
  | [], _ => by simp [relVs]
  | x :: l, h => by
    simp only [List.map_cons, relVs]
    obtain ⟨h1, h2⟩ := relV_known (hρ x) (h x (by simp))
    exact ⟨_, _, rfl, h1, h2, mem_rel hρ fun y hy => h y (by simp [hy])⟩

theorem relA_args {ρ : Operand → AV} {r : Operand → Value} (hρ : ∀ x, relV g w (ρ x) (r x)) (l : List Operand) : relA g w (l.map ρ) (l.map r) := by
  refine ⟨by simp, fun i v x hv hx => ?_⟩
  simp only [List.getElem?_map, Option.map_eq_some_iff] at hv hx
  obtain ⟨p, hp, rfl⟩ := hv
  obtain ⟨q, hq, rfl⟩ := hx
  rw [hp] at hq; cases hq
  exact hρ p

theorem relA_of_relVs : ∀ {vs : List AV} {l : List Value}, relVs g w vs l → relA g w vs l
  | [], l, h => by simp only [relVs] at h; subst h; exact ⟨rfl, fun i v x h => by simp at h⟩
  | v :: vs, l, h => by
    simp only [relVs] at h
    obtain ⟨x, r, rfl, h1, h2, h3⟩ := h
    obtain ⟨h4, h5⟩ := relA_of_relVs h3
    refine ⟨by simp [h4], fun i u y hu hy => ?_⟩
    cases i with
    | zero => simp at hu hy; subst hu hy; exact relV_of h1 h2
    | succ i => simp at hu hy; exact h5 i u y hu hy

theorem relA_append {a b : List AV} {x y : List Value} (h1 : relA g w a x) (h2 : relA g w b y) : relA g w (a ++ b) (x ++ y) := by
  refine ⟨by simp [h1.1, h2.1], fun i v z hv hz => ?_⟩
  rw [List.getElem?_append] at hv hz
  rw [← h1.1] at hz
  split at hv
  · rename_i hlt; rw [if_pos hlt] at hz; exact h1.2 i v z hv hz
  · rename_i hlt; rw [if_neg hlt] at hz; exact h2.2 _ v z hv hz

theorem callFunc_run {k : FuncId} (h : FnOk P k) (args : Array Value) (w : World) : (callFunc k args).run P w = .ok (.enter k args) w := by
  obtain ⟨fn, h1, h2, h3⟩ := h
  simp only [callFunc, Sem.run_bind, run_program, Result.andThen_ok, h1, h2, h3, Bool.false_eq_true, if_false, Sem.run_pure]

theorem two_args {ρ : Operand → AV} {l : Array Operand} {a b : AV} (h : l.toList.map ρ = [a, b]) : ∃ x y, l = #[x, y] ∧ ρ x = a ∧ ρ y = b := by
  have hl : l.toList.length = 2 := by have := congrArg List.length h; simpa using this
  obtain ⟨x, y, hxy⟩ : ∃ x y, l.toList = [x, y] := by
    generalize l.toList = q at hl
    rcases q with _ | ⟨x, _ | ⟨y, _ | ⟨z, q⟩⟩⟩ <;> simp at hl
    exact ⟨x, y, rfl⟩
  rw [hxy] at h
  simp only [List.map_cons, List.map_nil, List.cons.injEq, and_true] at h
  exact ⟨x, y, by apply Array.ext'; rw [hxy], h.1, h.2⟩

theorem op_sound {r : Option Nat} {o : Oper} {a : Act} {next : Act → World → Prop} {Q : Exit → Act → World → Prop} {ρ : Operand → AV} {K : AV → AST → Prop} (hI : Inv g σ w) (hρ : ∀ x, relV g w (ρ x) (a.eval x))
    (h : opW P ρ o σ K) (hn : ∀ g' w' v x σ', Ev g w g' w' → Inv g' σ' w' → relV g' w' v x → K v σ' → next (a.put o.dst x) w') :
    o.uponIn (FR r) 0 P a next Q ((execOp a.eval o).run P w) := by
  unfold opW at h
  unfold execOp
  split at h <;> first | exact h.elim | (rename_i heq; rw [heq]; simp only)
  · rename_i x
    exact hn g w _ _ σ (Ev.refl _ _) hI (hρ x) h
  · rename_i x
    exact hn g w _ _ σ (Ev.refl _ _) hI (hρ x) h
  · rename_i c x y
    unfold boolW at h
    split at h
    · rename_i b hb
      have hc := hρ c
      rw [hb] at hc
      have hv := relV_bool hc
      simp only [Sem.run_bind, hv, asBool, Sem.run_pure, Result.andThen_ok]
      cases b
      · exact hn g w _ _ σ (Ev.refl _ _) hI (hρ y) (h.2 rfl)
      · exact hn g w _ _ σ (Ev.refl _ _) hI (hρ x) (h.1 rfl)
    · exact h.elim
  · rename_i e
    exact upon_does (alloc_does hI h.1 h.2) hn
  · rename_i e x
    exact upon_does (box_does hI (hρ x) h.1 h.2) hn
  · rename_i t ps
    obtain ⟨h1, h2, h3, h4⟩ := h
    have hd := build_does (P := P) (K := K) (xs := ps.toList.map fun p => (p.1, a.eval p.2)) hI h1 h3 (by simp) (fun j p x hp hx => by
      simp only [List.getElem?_map, Option.map_eq_some_iff] at hp hx
      obtain ⟨q, hq, rfl⟩ := hp
      obtain ⟨q', hq', rfl⟩ := hx
      rw [hq] at hq'; cases hq'
      exact hρ _) h4 h2
    have e : (ps.map fun p => (p.1, a.eval p.2)) = (ps.toList.map fun p => (p.1, a.eval p.2)).toArray := by apply Array.ext'; simp
    have := upon_does (r := r) (o := o) (Q := Q) hd hn
    rw [← e] at this
    exact this
  · rename_i t n ps
    have hd := buildSlice_does (P := P) (K := K) (xs := ps.toList.map fun p => (p.1, a.eval p.2)) hI (by simp) (fun j p x hp hx => by
      simp only [List.getElem?_map, Option.map_eq_some_iff] at hp hx
      obtain ⟨q, hq, rfl⟩ := hp
      obtain ⟨q', hq', rfl⟩ := hx
      rw [hq] at hq'; cases hq'
      exact hρ _) h
    have e : (ps.map fun p => (p.1, a.eval p.2)) = (ps.toList.map fun p => (p.1, a.eval p.2)).toArray := by apply Array.ext'; simp
    have := upon_does (r := r) (o := o) (Q := Q) hd hn
    rw [← e] at this
    exact this
  · rename_i t x
    exact upon_does (load_does hI (hρ x) h) hn
  · rename_i t x y
    obtain ⟨w', g', σ', hrun, hE, hI', hK⟩ := store_does hI (hρ x) (hρ y) h
    simp only [Sem.run_bind, hrun, Result.andThen_ok, Sem.run_pure]
    exact hn g' w' .undef _ σ' hE hI' (.inl rfl) hK
  · rename_i x
    split at h
    · rename_i q hq
      have hx := hρ x
      rw [hq] at hx
      obtain ⟨i, p⟩ := q
      obtain ⟨b, sh, off, h1, h2, h3⟩ := relV_ptr hx
      rw [h3]
      rw [h3] at hx
      exact hn g w _ _ σ (Ev.refl _ _) hI hx h
    · rename_i v hq
      have hx := hρ x
      rw [hq] at hx
      obtain ⟨b, off, cv, h1, h2⟩ := relV_eptr hx
      rw [h1]
      rw [h1] at hx
      exact hn g w _ _ σ (Ev.refl _ _) hI hx h
    · rename_i f a' b' hq
      have hx := hρ x
      rw [hq] at hx
      have h0 := (relV_scalar hx rfl rfl).1
      simp only [relC, List.cons.injEq, and_true] at h0
      obtain ⟨p, q, h1, h2, h3⟩ := h0
      rw [h1]
      rw [h1] at hx
      exact hn g w _ _ σ (Ev.refl _ _) hI hx h
    · exact h.elim
  · rename_i op t x y yt
    exact upon_does (bin_does hI (hρ x) (hρ y) h) hn
  · rename_i op t x
    exact upon_does (un_does hI (hρ x) h) hn
  · rename_i s d x
    exact upon_does (conv_does hI (hρ x) h) hn
  · rename_i t x
    obtain ⟨⟨d, hd, hni⟩, hk, hK⟩ := h
    obtain ⟨h1, h2⟩ := relV_known (hρ x) hk
    have hrun : (Instr.makeInterface t (a.eval x)).run P w = .ok (.iface t (a.eval x)) w := by
      simp only [Instr.makeInterface, Sem.run_bind, run_underlying hd, Result.andThen_ok]
      cases d <;> first | (exact absurd rfl (hni _)) | rfl
    exact upon_does (K := K) (Does.pure hI hrun (relV_of (by simp only [relC, Value.cells]; exact ⟨_, rfl, h1, h2⟩) rfl) hK) hn
  · rename_i f first cap
    obtain ⟨hk, hK⟩ := h
    have hrun : (Instr.makeFunc f (first.map a.eval) (cap.map a.eval)).run P w = .ok (.func f (first.map a.eval) (cap.map a.eval)) w := rfl
    have r1 := mem_rel hρ (l := first.toList) fun x hx => hk x (by simp at hx ⊢; exact .inl hx)
    have r2 := mem_rel hρ (l := cap.toList) fun x hx => hk x (by simp at hx ⊢; exact .inr hx)
    exact upon_does (K := K) (Does.pure hI hrun (relV_of (by simp only [relC, Value.cells]; exact ⟨_, _, rfl, by simpa using r1, by simpa using r2⟩) rfl) hK) hn
  · rename_i t x lo hi mx
    have opt : ∀ (o : Option Operand), relO g w (o.map ρ) (o.map a.eval) := by
      intro o
      cases o with
      | none => exact .inl ⟨rfl, rfl⟩
      | some x => exact .inr ⟨_, _, rfl, rfl, hρ x⟩
    exact upon_does (slice_does hI (hρ x) (opt lo) (opt hi) (opt mx) h) hn
  · rename_i t x i
    exact upon_does (fieldAddr_does hI (hρ x) h.1 h.2) hn
  · rename_i t x i
    exact upon_does (field_does hI (hρ x) h.1 h.2) hn
  · rename_i t x i
    exact upon_does (indexAddr_does hI (hρ x) (hρ i) h) hn
  · rename_i t x i
    exact upon_does (index_does hI (hρ x) (hρ i) h) hn
  · rename_i x i
    split at h
    · rename_i vs hq
      split at h
      · rename_i v hv
        have hx := hρ x
        rw [hq] at hx
        exact upon_does (extract_does hI hx hv h) hn
      · exact h.elim
    · exact h.elim
  · rename_i t x k ok
    exact upon_does (lookup_does hI (hρ x) (hρ k) h) hn
  · rename_i t m k v
    obtain ⟨w', g', σ', hrun, hE, hI', hK⟩ := mapUpdate_does hI (hρ m) (hρ k) (hρ v) h
    simp only [Sem.run_bind, hrun, Result.andThen_ok, Sem.run_pure]
    exact hn g' w' .undef _ σ' hE hI' (.inl rfl) hK
  · rename_i t m k
    exact upon_does (mapEntry_does hI (hρ m) (hρ k) h) hn
  · rename_i t m st v
    obtain ⟨w', g', σ', hrun, hE, hI', hK⟩ := entryStore_does (t := t) hI (hρ m) (hρ st) (hρ v) h
    rw [Sem.run_bind, hrun]
    simp only [Result.andThen_ok, Sem.run_pure]
    exact hn g' w' .undef _ σ' hE hI' (.inl rfl) hK
  · rename_i t
    exact upon_does (K := K) (makeMap_does (t := t) hI h) hn
  · rename_i t n c
    exact upon_does (makeSlice_does hI (hρ n) (hρ c) h) hn
  · rename_i t x
    exact upon_does (range_does hI (hρ x) h) hn
  · rename_i x s
    exact upon_does (next_does (ty := o.type) hI (hρ x) h) hn
  · rename_i x
    exact upon_does (entry_does hI (hρ x) h) hn
  · rename_i c
    unfold callW at h
    split at h
    · rename_i hcal
      split at h
      · rename_i s x hargs
        have hm : c.args.map a.eval = #[a.eval s, a.eval x] := by
          have : (c.args.map a.eval).toList = [a.eval s, a.eval x] := by simp [hargs]
          apply Array.ext'; simpa using this
        have hd := append_does (ty := o.type) hI (hρ s) (hρ x) h
        have := upon_does (r := r) (o := o) (Q := Q) hd hn
        simpa [resolve, hcal, invoke, builtin, hm] using this
      · exact h.elim
    · rename_i hcal
      split at h
      · rename_i x hargs
        have hm : c.args.map a.eval = #[a.eval x] := by
          have : (c.args.map a.eval).toList = [a.eval x] := by simp [hargs]
          apply Array.ext'; simpa using this
        obtain ⟨t, ht, h⟩ := h
        have hd : Does P g w (Builtin.len_ c.argTypes o.type #[a.eval x]) K := by
          have hx := hρ x
          split at h
          · rename_i s hs
            rw [hs] at hx
            obtain ⟨h1, h2⟩ := relV_str hx
            rw [h1]
            exact Does.pure hI (v := .int .i64 s.length) (x := .int .i64 s.length) (by simp [Builtin.len_, ht, run_underlying h.1, goInt, bytes_size]) (relV_mkInt _ _) (h.2 h2)
          · rename_i tk xs hs
            rw [hs] at hx
            obtain ⟨ad, aa, cc, es, css, h1, _, h2, h3, h4, _⟩ := relV_slice hx
            obtain ⟨⟨e, he⟩, hK⟩ := h
            rw [h1]
            exact Does.pure hI (v := .int .i64 xs.length) (x := .int .i64 xs.length) (by simp [Builtin.len_, ht, run_underlying he, goInt]) (relV_mkInt _ _) (hK (by omega))
          · rename_i i p n hs
            rw [hs] at hx
            have hsc := (relV_scalar hx rfl rfl).1
            simp only [relC, List.cons.injEq, and_true] at hsc
            obtain ⟨b, sh, oo, cc, _, _, h1, h3, h4⟩ := hsc
            obtain ⟨⟨e, he⟩, hK⟩ := h
            rw [h1]
            exact Does.pure hI (v := .int .i64 n) (x := .int .i64 n) (by simp [Builtin.len_, ht, run_underlying he, goInt]) (relV_mkInt _ _) (hK (by omega))
          · rename_i hs
            rw [hs] at hx
            have hv := relV_mpnil hx
            obtain ⟨⟨kt, e, he⟩, hK⟩ := h
            rw [hv]
            exact Does.pure hI (v := .int .i64 0) (x := .int .i64 0) (by simp [Builtin.len_, ht, run_underlying he, goInt]) (relV_mkInt _ _) hK
          · rename_i i hs
            rw [hs] at hx
            obtain ⟨b, sh, hg, hv⟩ := relV_mp hx
            obtain ⟨⟨kt, e, he⟩, h⟩ := h
            rw [hv]
            split at h
            · rename_i es ck hobj
              obtain ⟨_, _, me, hm, hl, _, _, _⟩ := obj_map hI hobj hg
              exact Does.pure hI (v := .int .i64 es.length) (x := .int .i64 es.length) (by simp [Builtin.len_, ht, run_underlying he, run_getObj' hm, goInt, hl]) (relV_mkInt _ _) h.2
            · exact h.elim
          · exact h.elim
        have := upon_does (r := r) (o := o) (Q := Q) hd hn
        simpa [resolve, hcal, invoke, builtin, hm] using this
      · exact h.elim
    · rename_i hcal
      split at h
      · rename_i x y hargs
        have hm : c.args.map a.eval = #[a.eval x, a.eval y] := by
          have : (c.args.map a.eval).toList = [a.eval x, a.eval y] := by simp [hargs]
          apply Array.ext'; simpa using this
        have hd := copy_does (ty := o.type) hI (hρ x) (hρ y) h
        have := upon_does (r := r) (o := o) (Q := Q) hd hn
        simpa [resolve, hcal, invoke, builtin, hm] using this
      · exact h.elim
    · rename_i hcal
      unfold mmW at h
      split at h
      · rename_i k p k' q hargs
        obtain ⟨rfl, hK⟩ := h
        have hm : ∃ x y, c.args = #[x, y] ∧ ρ x = .int k p ∧ ρ y = .int k q := by
          exact two_args hargs
        obtain ⟨x, y, hc, hx, hy⟩ := hm
        have h1 := relV_int (hx ▸ hρ x)
        have h2 := relV_int (hy ▸ hρ y)
        have hd : Does P g w (Builtin.max_ c.argTypes o.type #[.int k p, .int k q]) K := by
          refine Does.pure hI (v := .int k (max p q)) (x := .int k (max p q)) ?_ (relV_mkInt _ _) (by simpa using hK)
          rw [run_max_int2]
          congr 2
          by_cases hlt : q > p
          · rw [if_pos hlt]; omega
          · rw [if_neg hlt]; omega
        have := upon_does (r := r) (o := o) (Q := Q) hd hn
        simpa [resolve, hcal, invoke, builtin, hc, h1, h2] using this
      · exact h.elim
    · rename_i hcal
      unfold mmW at h
      split at h
      · rename_i k p k' q hargs
        obtain ⟨rfl, hK⟩ := h
        have hm : ∃ x y, c.args = #[x, y] ∧ ρ x = .int k p ∧ ρ y = .int k q := by
          exact two_args hargs
        obtain ⟨x, y, hc, hx, hy⟩ := hm
        have h1 := relV_int (hx ▸ hρ x)
        have h2 := relV_int (hy ▸ hρ y)
        have hd : Does P g w (Builtin.min_ c.argTypes o.type #[.int k p, .int k q]) K := by
          refine Does.pure hI (v := .int k (min p q)) (x := .int k (min p q)) ?_ (relV_mkInt _ _) (by simpa using hK)
          rw [run_min_int2]
          congr 2
          by_cases hlt : q < p
          · rw [if_pos hlt]; omega
          · rw [if_neg hlt]; omega
        have := upon_does (r := r) (o := o) (Q := Q) hd hn
        simpa [resolve, hcal, invoke, builtin, hc, h1, h2] using this
      · exact h.elim
    · rename_i hcal
      split at h
      · rename_i x y hargs
        have hm : c.args.map a.eval = #[a.eval x, a.eval y] := by
          have : (c.args.map a.eval).toList = [a.eval x, a.eval y] := by simp [hargs]
          apply Array.ext'; simpa using this
        have hd := delete_does (ty := o.type) hI (hρ x) (hρ y) h
        have := upon_does (r := r) (o := o) (Q := Q) hd hn
        simpa [resolve, hcal, invoke, builtin, hm] using this
      · exact h.elim
    · rename_i hcal
      split at h
      · rename_i x hargs
        have hm : c.args.map a.eval = #[a.eval x] := by
          have : (c.args.map a.eval).toList = [a.eval x] := by simp [hargs]
          apply Array.ext'; simpa using this
        have hd := clear_does (ty := o.type) hI (hρ x) h
        have := upon_does (r := r) (o := o) (Q := Q) hd hn
        simpa [resolve, hcal, invoke, builtin, hm] using this
      · exact h.elim
    · rename_i f hcal
      split at h
      · rename_i k first cap hf
        have hx := hρ f
        rw [hf] at hx
        have h0 := (relV_scalar hx rfl rfl).1
        simp only [relC, List.cons.injEq, and_true] at h0
        obtain ⟨p, q, h1, h2, h3⟩ := h0
        have hrun : ((do let d ← resolve a.eval c o.type; invoke d.target d.args) : Sem Next).run P w = .ok (.enter k (p ++ c.args.map a.eval ++ q)) w := by
          simp [resolve, hcal, h1, Deferred.ofValue, invoke, callFunc_run h.1]
        rw [hrun, Oper.uponIn_enter]
        refine ⟨fun h => by simp at h, calls_in ?_⟩
        have hA : relA g w (first ++ c.args.toList.map ρ ++ cap) (p ++ c.args.map a.eval ++ q).toList := by
          simp only [Array.toList_append, Array.toList_map]
          exact relA_append (relA_append (relA_of_relVs h2) (relA_args hρ _)) (relA_of_relVs h3)
        refine (h.2 g w _ hI hA).mono ?_
        rintro e w' ⟨x, g', v, σ', rfl, hE, hI', hr, hK⟩
        exact hn g' w' v x σ' hE hI' hr hK
      · rename_i l hf
        have hx := hρ f
        rw [hf] at hx
        have h0 := (relV_scalar hx rfl rfl).1
        simp only [relC, List.cons.injEq, and_true] at h0
        obtain ⟨p, q, h1, h2, h3⟩ := h0
        simp only [relVs] at h2 h3
        obtain rfl : p = #[] := by cases p; simp_all
        obtain rfl : q = #[] := by cases q; simp_all
        obtain ⟨fn, tmps, assign, body, hy, hR⟩ := h g w (c.args.map a.eval) hI (by simp only [Array.toList_map]; exact relA_args hρ _)
        have hrun : ((do let d ← resolve a.eval c o.type; invoke d.target d.args) : Sem Next).run P w = .ok (.round l fn tmps assign body) w := by
          simp [resolve, hcal, h1, Deferred.ofValue, invoke, hy]
        rw [hrun, Oper.uponIn_round]
        refine ⟨fun h => by simp at h, round_in (hR.mono ?_)⟩
        rintro e w' ⟨x, g', v, σ', rfl, hE, hI', hr, hK⟩
        exact hn g' w' v x σ' hE hI' hr hK
      · exact h.elim
    · rename_i rc m hcal
      split at h
      · rename_i t v hf
        obtain ⟨f, hm, h⟩ := h
        have hx := hρ rc
        rw [hf] at hx
        have h0 := (relV_scalar hx rfl rfl).1
        simp only [relC, List.cons.injEq, and_true] at h0
        obtain ⟨y, h1, h2, h3⟩ := h0
        have hmr : ∀ W, (method (P.types.size + Made.depth) t y m).run P W = .ok (f, y) W := fun W => method_run hm _ y W
        have he : (#[Value.iface t y] ++ c.args.map a.eval).extract 1 (#[Value.iface t y] ++ c.args.map a.eval).size = c.args.map a.eval := by
          apply Array.ext'; simp
          exact List.take_of_length_le (by simp)
        have hrun : ((do let d ← resolve a.eval c o.type; invoke d.target d.args) : Sem Next).run P w = .ok (.enter f (#[y] ++ c.args.map a.eval)) w := by
          simp only [resolve, hcal, Sem.run_bind, Sem.run_pure, Result.andThen_ok, h1, invoke]
          have h00 : (#[Value.iface t y] ++ c.args.map a.eval)[0]? = some (Value.iface t y) := by rw [Array.getElem?_append_left (show 0 < #[Value.iface t y].size from Nat.zero_lt_one)]; rfl
          rw [h00]
          simp only [he, callMethod, Sem.run_bind, run_program, Result.andThen_ok, hmr]
          exact callFunc_run h.1 _ w
        rw [hrun, Oper.uponIn_enter]
        refine ⟨fun h => by simp at h, calls_in ?_⟩
        have hA : relA g w (v :: c.args.toList.map ρ) (#[y] ++ c.args.map a.eval).toList := by
          simp only [Array.toList_append, Array.toList_map]
          exact relA_append (a := [v]) (relA_of_relVs (by simp only [relVs]; exact ⟨y, [], rfl, h2, h3, rfl⟩)) (relA_args hρ _)
        refine (h.2 g w _ hI hA).mono ?_
        rintro e w' ⟨x, g', v, σ', rfl, hE, hI', hr, hK⟩
        exact hn g' w' v x σ' hE hI' hr hK
      · exact h.elim
    · exact h.elim

theorem semAt_sound {r : Option Nat} {o : Oper} {ρ : Operand → AV} {K : AV → AST → Prop} (h : opW P ρ o σ K) (f : Operand → Value) : o.semAt r f = execOp f o := by
  refine Oper.semAt_eq r f o fun c hc => ?_
  unfold opW at h
  rw [hc] at h
  exact h

end Go.Aff

