/- Regions that draw their order, where nothing is left behind; literals, appends, conversions of slices as rules. -/
import Derived.Test.YtnoopjlfcdmdfaaAffV
import Derived.KernelRfl
import Derived.Laws.BitsLemmas
import Derived.Laws.Bits64
namespace Go.Aff
set_option linter.unusedVariables false
set_option linter.unusedSimpArgs false

variable {P : Program} {σ σ' : AST} {K : AV → AST → Prop} {KV : AV → Prop} {ops : Array Oper} {τ : Env} {KE : Env → AST → Prop}

def gop (ops : Array Oper) (j : Nat) : Option Oper := ops[j]?
theorem gop_zero {o : Oper} {l : List Oper} : gop ⟨o :: l⟩ 0 = some o := nr rfl
theorem gop_succ {o : Oper} {l : List Oper} {n : Nat} : gop ⟨o :: l⟩ (n + 1) = gop ⟨l⟩ n := by simp [gop]

def seqI (P : Program) (ops : Array Oper) : List Nat → Env → AST → (Env → AST → Prop) → Prop
  | [], τ, σ, K => K τ σ
  | i :: r, τ, σ, K => match gop ops i with
    | none => False
    | some o => stepW P ops o τ σ fun v σ' => σ' = σ ∧ seqI P ops r (τ.putO o.dst v) σ' K

def pastOk (P : Program) (ops : Array Oper) (past : List (Nat × Env × AV)) (σ : AST) : Prop :=
  ∀ x ∈ past, ∀ o, ops[x.1]? = some o → stepW P ops o x.2.1 σ fun v' σ'' => v' = x.2.2 ∧ σ'' = σ

theorem seqI_awpD : ∀ (l : List Nat) (past : List (Nat × Env × AV)) (τ : Env) (σ : AST), pastOk P ops past σ → (∀ t, lenOk (τ t)) → seqI P ops l τ σ KE → awpD P ops l past τ σ KE
  | [], past, τ, σ, hp, hlen, h => h
  | i :: r, past, τ, σ, hp, hlen, h => by
    simp only [seqI] at h
    split at h
    · exact h.elim
    · rename_i o hk
      have hk : ops[i]? = some o := hk
      simp only [awpD, hk]
      cases he : effO P o with
      | true =>
        simp only [if_true]
        refine stepW_mono (fun v σ' hh => ?_) h
        obtain ⟨rfl, hh⟩ := hh
        exact ⟨fun x hx _ o ho => hp x hx o ho, fun hlv => seqI_awpD r past _ _ hp hlv hh⟩
      | false =>
        simp only [Bool.false_eq_true, if_false]
        obtain ⟨v, hv, hkk⟩ := stepW_det hlen he h
        refine hkk _ fun hlv => seqI_awpD r _ _ _ ?_ hlv hv.2
        intro x hx o' ho'
        rcases List.mem_cons.1 hx with rfl | hx
        · dsimp only at ho' ⊢
          rw [hk] at ho'; cases ho'
          exact hkk _ ⟨rfl, rfl⟩
        · exact hp x hx o' ho'

/-- A region that draws its order, where no state is left behind: walked in one order. -/
theorem awp_drawS {id : Nat} {ops : Array Oper} {Q : Exit → Env → AST → Prop} (ord : List Nat) (ho : ordOk P ops ord = true) (h : seqI P ops ord τ σ (Q .normal)) : awp P (.region id ops true) Q τ σ :=
  awp_draw ord ho fun hlen => seqI_awpD ord [] τ σ (fun x hx => by simp at hx) hlen h

def seqO (P : Program) (ops : Array Oper) (o : Option Oper) (r : List Nat) (τ : Env) (σ : AST) (K : Env → AST → Prop) : Prop := match o with
  | none => False
  | some o => stepW P ops o τ σ fun v σ' => σ' = σ ∧ seqI P ops r (τ.putO o.dst v) σ' K
theorem seqI_nil : seqI P ops [] τ σ KE = KE τ σ := nr rfl
theorem seqI_cons {i : Nat} {r : List Nat} : seqI P ops (i :: r) τ σ KE = seqO P ops (gop ops i) r τ σ KE := by simp only [seqI, seqO]
theorem seqO_some {o : Oper} {r : List Nat} : seqO P ops (some o) r τ σ KE = stepW P ops o τ σ (@Lam ⟨fun v σ' => σ' = σ ∧ @Later ⟨seqI P ops r (τ.putO o.dst v) σ' KE⟩⟩) := nr rfl

/-! ### Slices -/

/-- What a slice's type is. -/
structure ElemT (P : Program) (t e c b : Nat) : Prop where
  hu : P.underlying t = some (.slice e)
  hc : P.cellsOf e = c
  hb : P.bytesOf e = b
  hz : ∃ z, ZeroOf P e z
  ha : 0 < c

theorem append_slice {t u e c b : Nat} (E : ElemT P t e c b) {tk tk2 : Tk} {xs ys : List AV} (hu : isSliceT P u = true) (hcan : canApp σ tk xs.length c) (hys : ∀ v ∈ ys, v.size = c) (hxs : ∀ v ∈ xs, v.size = c)
    (hl : (xs.length + ys.length) * b ≤ 140737488355328) (hm : xs.length + ys.length ≤ maxL) (hK : K (.slice (growT σ tk) (xs ++ ys)) (growS σ tk (xs.length + ys.length) c)) :
    appendW P ⟨[t, u]⟩ (.slice tk xs) (.slice tk2 ys) σ K := by
  refine ⟨t, u, e, xs, tk, ys, rfl, rfl, E.hu, rfl, ?_, E.hz, ?_, ?_, hm, ?_⟩
  · simp [elemsOf, isSliceT_iff hu]
  · rw [E.hc]; exact hys
  · rw [E.hb]; exact hl
  · cases tk with
    | none => exact hcan.elim
    | lit => exact hcan.elim
    | full => exact ⟨by rw [E.hc]; exact hxs, by rw [E.hc]; exact hK⟩
    | own k => exact ⟨by rw [E.hc]; exact hcan, by rw [E.hc]; exact hK⟩

theorem size_u8s {l : List UInt8} : ∀ v ∈ u8s l, v.size = 1 := by
  intro v hv; simp only [u8s, List.mem_map] at hv; obtain ⟨b, _, rfl⟩ := hv; simp [AV.size]

theorem u8s_length {l : List UInt8} : (u8s l).length = l.length := by simp [u8s]
theorem u8s_append {a b : List UInt8} : u8s (a ++ b) = u8s a ++ u8s b := by simp [u8s]
theorem unU8_u8s : ∀ {l : List UInt8}, unU8 (u8s l) = some l
  | [] => rfl
  | b :: r => by
    have := unU8_u8s (l := r)
    simp only [u8s] at this ⊢
    simp [unU8, this]

/-- Bytes behind bytes. -/
theorem append_bytes {t u e b : Nat} (E : ElemT P t e 1 b) {tk tk2 : Tk} {xs ys : List UInt8} (hu : isSliceT P u = true) (hcan : canApp σ tk xs.length 1)
    (hl : (xs.length + ys.length) * b ≤ 140737488355328) (hm : xs.length + ys.length ≤ maxL) (hK : K (.slice (growT σ tk) (u8s (xs ++ ys))) (growS σ tk (xs.length + ys.length) 1)) :
    appendW P ⟨[t, u]⟩ (.slice tk (u8s xs)) (.slice tk2 (u8s ys)) σ K :=
  append_slice E hu (by rw [u8s_length]; exact hcan) size_u8s size_u8s (by rw [u8s_length, u8s_length]; exact hl) (by rw [u8s_length, u8s_length]; exact hm) (by rw [u8s_length, u8s_length, ← u8s_append]; exact hK)

/-- A text behind bytes. -/
theorem append_text {t u e b : Nat} (E : ElemT P t e 1 b) {tk : Tk} {xs s : List UInt8} (hu : P.underlying u = some .string) (hcan : canApp σ tk xs.length 1)
    (hl : (xs.length + s.length) * b ≤ 140737488355328) (hm : xs.length + s.length ≤ maxL) (hK : K (.slice (growT σ tk) (u8s (xs ++ s))) (growS σ tk (xs.length + s.length) 1)) :
    appendW P ⟨[t, u]⟩ (.slice tk (u8s xs)) (.str s) σ K := by
  refine ⟨t, u, e, u8s xs, tk, u8s s, rfl, rfl, E.hu, rfl, ?_, E.hz, ?_, ?_, ?_, ?_⟩
  · simp [elemsOf, hu]
  · rw [E.hc]; exact size_u8s
  · rw [E.hb, u8s_length, u8s_length]; exact hl
  · rw [u8s_length, u8s_length]; exact hm
  · rw [u8s_length, u8s_length, ← u8s_append]
    cases tk with
    | none => exact hcan.elim
    | lit => exact hcan.elim
    | full => exact ⟨by rw [E.hc]; exact size_u8s, by rw [E.hc]; exact hK⟩
    | own k => exact ⟨by rw [E.hc]; exact hcan, by rw [E.hc]; exact hK⟩

theorem build_slice {t e c b n : Nat} (E : ElemT P t e c b) {ps : List (Nat × AV)} (h1 : ps.map (·.1) = List.range n) (h2 : n * c ≤ 16777216) (h3 : ∀ v ∈ ps.map (·.2), fits P e v ∧ v.known = true) (hK : KV (.slice .full (ps.map (·.2)))) :
    buildSliceW P t n ps KV := ⟨e, E.hu, h1, by rw [E.hc]; exact h2, h3, E.hz, by rw [E.hc]; exact E.ha, .inl hK⟩

theorem build_lit {t e c b n : Nat} (E : ElemT P t e c b) {ps : List (Nat × AV)} (hn : 0 < n) (h1 : ps.map (·.1) = List.range n) (h2 : n * c ≤ 16777216) (h3 : ∀ v ∈ ps.map (·.2), fits P e v ∧ v.known = true) (hK : KV (.slice .lit (ps.map (·.2)))) :
    buildSliceW P t n ps KV := ⟨e, E.hu, h1, by rw [E.hc]; exact h2, h3, E.hz, by rw [E.hc]; exact E.ha, .inr ⟨hn, hK⟩⟩

/-- One byte. -/
theorem build_byte {t e b : Nat} (E : ElemT P t e 1 b) (ha : aggT P e = some false) {n : Int} (h0 : 0 ≤ n) (h1 : n < 256) (hK : KV (.slice .full (u8s [UInt8.ofNat n.toNat]))) : buildSliceW P t 1 [(0, .int .u8 n)] KV := by
  refine build_slice E rfl (by decide) ?_ ?_
  · intro v hv
    simp only [List.map_cons, List.map_nil, List.mem_singleton] at hv
    subst hv
    exact ⟨⟨by rw [ha]; rfl, by rw [E.hc]; simp [AV.size]⟩, rfl⟩
  · have : u8s [UInt8.ofNat n.toNat] = [.int .u8 n] := by
      simp only [u8s, List.map_cons, List.map_nil]
      have : ((UInt8.ofNat n.toNat).toNat : Int) = n := by
        simp [UInt8.toNat_ofNat']; omega
      rw [this]
    rw [this] at hK
    exact hK

/-- Bytes as a text. -/
theorem conv_bytes {s d e : Nat} (hs : P.underlying s = some (.slice e)) (he : P.underlying e = some (.int .u8)) (hd : P.underlying d = some .string) {tk : Tk} {l : List UInt8} : convW P s d (.slice tk (u8s l)) σ K = K (.str l) σ := by
  simp only [convW, hs, hd, unU8_u8s, Option.some.injEq, TypeDesc.slice.injEq]
  simp only [eq_iff_iff]
  constructor
  · rintro (⟨_, _, rfl, _, _, rfl, h⟩ | ⟨_, rfl, _⟩)
    · exact h
    · rw [hs] at hd; cases hd
  · intro h; exact .inl ⟨_, _, rfl, he, trivial, rfl, h⟩
/-- The bytes of a constant text, as they are. -/
theorem conv_lit {s : Nat} (hs : isSliceT P s = true) (he : P.underlying (elemT P s) = some (.int .u8)) {xs : List AV} : convW P s s (.slice .lit xs) σ K = K (.slice .full xs) σ := by
  have hs := isSliceT_iff hs
  simp only [convW, eq_iff_iff]
  constructor
  · rintro (⟨_, _, _, _, h, _⟩ | ⟨_, _, _, _, _, h⟩)
    · rw [hs] at h; cases h
    · exact h
  · intro h; exact .inr ⟨trivial, trivial, _, hs, he, h⟩

theorem conv_bytes' {s d : Nat} (hs : isSliceT P s = true) (he : P.underlying (elemT P s) = some (.int .u8)) (hd : P.underlying d = some .string) {tk : Tk} {l : List UInt8} : convW P s d (.slice tk (u8s l)) σ K = K (.str l) σ :=
  conv_bytes (isSliceT_iff hs) he hd

/-- A loop: what each round is told, and that it comes nearer. -/
theorem awp_rounds {α : Type} {c : Code} {Q : Exit → Env → AST → Prop} (S : α → Env → AST → Prop) (μ : α → Nat) (x0 : α) (h0 : S x0 τ σ)
    (h : ∀ x τ σ, S x τ σ → awp P c (thenQ (@LamE ⟨fun τ' σ' => @Later ⟨∃ x', μ x' < μ x ∧ S x' τ' σ'⟩⟩) Q) τ σ) : awp P (.loop c) Q τ σ :=
  awp_loop_of S μ x0 h0 fun x τ σ hx => by
    have := h x τ σ hx
    have e : (@LamE ⟨fun τ' σ' => @Later ⟨∃ x', μ x' < μ x ∧ S x' τ' σ'⟩⟩) = (@LamE ⟨fun τ' σ' => ∃ m, m < μ x ∧ ∃ x', S x' τ' σ' ∧ μ x' = m⟩) := by
      funext τ' σ'
      simp only [LamE, Later, eq_iff_iff]
      constructor
      · rintro ⟨x', h1, h2⟩; exact ⟨_, h1, x', h2, rfl⟩
      · rintro ⟨_, h1, x', h2, rfl⟩; exact ⟨x', h1, h2⟩
    rwa [e] at this

theorem nth_get {α : Type} {l : List α} {i : Nat} {y : α} {F : α → Prop} (h : l[i]? = some y) (hF : F y) : nthW l (i : Int) (@LamA _ ⟨F⟩) := by
  refine ⟨by omega, ?_, fun z hz => ?_⟩
  · have := (List.getElem?_eq_some_iff.1 h).1; omega
  · have : ((i : Int)).toNat = i := by omega
    rw [this, h] at hz
    cases hz; exact hF
theorem get_lt {α : Type} {l : List α} {i : Nat} (h : i < l.length) : ∃ y, l[i]? = some y := ⟨_, List.getElem?_eq_getElem h⟩

theorem tdiv_nat (n m : Nat) : Int.tdiv (n : Int) (m : Int) = ((n / m : Nat) : Int) := (Int.ofNat_tdiv n m).symm
theorem tmod_nat (n m : Nat) : Int.tmod (n : Int) (m : Int) = ((n % m : Nat) : Int) := (Int.ofNat_tmod n m).symm
theorem tdiv_lit (n m : Nat) : Int.tdiv (n : Int) (OfNat.ofNat (m + 1)) = ((n / (m + 1) : Nat) : Int) := tdiv_nat n (m + 1)
theorem tmod_lit (n m : Nat) : Int.tmod (n : Int) (OfNat.ofNat (m + 1)) = ((n % (m + 1) : Nat) : Int) := tmod_nat n (m + 1)
theorem tdiv10_neg {n : Int} (h : n ≤ 0) : n.tdiv 10 = -((-n) / 10) := by
  have := Int.neg_tdiv (a := -n) (b := 10)
  rw [Int.neg_neg] at this
  rw [this, Int.tdiv_eq_ediv_of_nonneg (by omega)]
theorem tmod10_neg {n : Int} (h : n ≤ 0) : n.tmod 10 = -((-n) % 10) := by
  have := Int.neg_tmod (a := -n) (b := 10)
  rw [Int.neg_neg] at this
  rw [this, Int.tmod_eq_emod_of_nonneg (by omega)]
theorem wrap_i64 {n : Int} (h0 : -9223372036854775808 ≤ n) (h1 : n ≤ 9223372036854775807) : IntKind.i64.wrap n = n := by
  rw [IntKind.wrap_i64]; omega
theorem wrap_u64 {n : Int} (h0 : 0 ≤ n) (h1 : n < 18446744073709551616) : IntKind.u64.wrap n = n := by
  rw [IntKind.wrap_u64]; omega
theorem wrap_u8 {n : Int} (h0 : 0 ≤ n) (h1 : n < 256) : IntKind.u8.wrap n = n := by
  rw [IntKind.wrap_u8]; omega

def extractO (v : Option AV) (K : AV → Prop) : Prop := match v with
  | some v => K v
  | none => False
theorem known_int {k : IntKind} {n : Int} : (AV.int k n).known = true := rfl
theorem known_str {s : List UInt8} : (AV.str s).known = true := rfl
theorem known_bool {b : Bool} : (AV.bool b).known = true := rfl
theorem known_slice {tk : Tk} {xs : List AV} : (AV.slice tk xs).known = true := rfl
theorem known_ptr {p : Option (Nat × List Nat)} : (AV.ptr p).known = true := rfl
theorem known_eptr {v : AV} : (AV.eptr v).known = true := rfl
theorem known_agg {ps : List AV} : (AV.agg ps).known = true := rfl
theorem known_dig {d : Dig} : (AV.dig d).known = true := rfl
theorem known_fn {f : Fn} {a b : List AV} : (AV.fn f a b).known = true := rfl
theorem known_mp {r : Option Nat} : (AV.mp r).known = true := rfl
theorem res_two {a b : Nat} : resW P [.tmp a, .tmp b] τ σ KV = (((τ a).known = true ∧ (τ b).known = true) ∧ @Later ⟨KV (.tuple [τ a, τ b])⟩) := by
  simp [resW, resList, oneRes, Later]
theorem res_three {a b c : Nat} : resW P [.tmp a, .tmp b, .tmp c] τ σ KV = (((τ a).known = true ∧ (τ b).known = true ∧ (τ c).known = true) ∧ @Later ⟨KV (.tuple [τ a, τ b, τ c])⟩) := by
  simp [resW, resList, oneRes, Later]
theorem res_four {a b c d : Nat} : resW P [.tmp a, .tmp b, .tmp c, .tmp d] τ σ KV = (((τ a).known = true ∧ (τ b).known = true ∧ (τ c).known = true ∧ (τ d).known = true) ∧ @Later ⟨KV (.tuple [τ a, τ b, τ c, τ d])⟩) := by
  simp [resW, resList, oneRes, Later]
theorem res_none : resW P [] τ σ KV = KV (.tuple []) := by simp [resW, resList]
theorem extract_at {vs : List AV} {i : Nat} : extractW (.tuple vs) i KV = extractO vs[i]? KV := nr rfl
theorem extractO_some {v : AV} : extractO (some v) KV = KV v := nr rfl
theorem absV_empty : absV (.string ⟨#[]⟩) = .str [] := nr rfl

attribute [go_sem ↓] res_two res_three res_four res_none
attribute [go_sem] known_int known_str known_bool known_slice known_ptr known_eptr known_agg known_dig known_fn known_mp extract_at extractO_some absV_empty List.getElem?_cons_zero List.getElem?_cons_succ List.length_nil List.length_cons Nat.reduceLeDiff
attribute [go_sem] beq_self_eq_true bne_self_eq_false ne_eq not_false_eq_true Int.reduceEq Int.reduceLT Int.reduceNeg Int.reduceBEq Int.reduceBNe Nat.reduceBEq decide_true decide_false Bool.true_and Bool.false_and Bool.and_true Bool.and_false Bool.or_false Bool.or_true Bool.false_or Bool.true_or List.cons_append List.nil_append
attribute [go_sem ↓] gop_zero gop_succ seqI_nil seqI_cons seqO_some
attribute [go_sem] conv_bytes'
end Go.Aff
