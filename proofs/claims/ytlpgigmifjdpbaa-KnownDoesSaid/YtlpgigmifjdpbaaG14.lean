import Derived.Test.YtlpgigmifjdpbaaG13

/- Walking: pointers compared, digests compared, arrays of anything in memory, slices of them, states known by their cells. -/
namespace Go.Aff
set_option linter.unusedVariables false
set_option linter.unusedSimpArgs false

variable {τ : Env} {P : Program} {σ σ' : AST} {K : AV → AST → Prop} {KV : AV → Prop} {KS : AST → Prop}

def isPtrT (P : Program) (t : TypeId) : Bool := match P.underlying t with | some (.pointer _) => true | _ => false
theorem isPtrT_iff {t : TypeId} (h : isPtrT P t = true) : ∃ a, P.underlying t = some (.pointer a) := by
  unfold isPtrT at h; split at h
  · exact ⟨_, by assumption⟩
  · cases h
theorem bin_ptr_eql {t : TypeId} (hu : isPtrT P t = true) {p : Option (Nat × List Nat)} : binW P .eql t (.ptr p) (.ptr none) KV = KV (.bool p.isNone) := by
  obtain ⟨a, h⟩ := isPtrT_iff hu
  cases p <;> simp [binW, eqW, eqA, h]
theorem bin_ptr_neq {t : TypeId} (hu : isPtrT P t = true) {p : Option (Nat × List Nat)} : binW P .neq t (.ptr p) (.ptr none) KV = KV (.bool !p.isNone) := by
  obtain ⟨a, h⟩ := isPtrT_iff hu
  cases p <;> simp [binW, eqW, eqA, h]

def digT (P : Program) (t : TypeId) : Bool := !P.eqGuardType P.depth t && match P.underlying t with | some (.array 32 e) => isU8 P e && P.cellsOf e == 1 | _ => false
theorem digT_iff {t : TypeId} (h : digT P t = true) : P.eqGuardType P.depth t = false ∧ ∃ e, P.underlying t = some (.array 32 e) ∧ isU8 P e = true ∧ P.cellsOf e = 1 := by
  unfold digT at h
  simp only [Bool.and_eq_true, Bool.not_eq_true'] at h
  obtain ⟨h1, h2⟩ := h
  split at h2
  · rename_i e he
    simp only [Bool.and_eq_true, beq_iff_eq] at h2
    exact ⟨h1, e, he, h2.1, h2.2⟩
  · cases h2
theorem bin_dig_eql {t : TypeId} (hu : digT P t = true) {a b : Dig} : binW P .eql t (.dig a) (.dig b) KV = KV (.bool (a.l == b.l)) := by
  obtain ⟨h1, e, h2, h3, h4⟩ := digT_iff hu
  simp [binW, eqW, eqA, h1, h2, h3, h4]
theorem bin_dig_neq {t : TypeId} (hu : digT P t = true) {a b : Dig} : binW P .neq t (.dig a) (.dig b) KV = KV (.bool !(a.l == b.l)) := by
  obtain ⟨h1, e, h2, h3, h4⟩ := digT_iff hu
  simp [binW, eqW, eqA, h1, h2, h3, h4]
theorem nilCheck_some {q : Nat × List Nat} : nilCheckW (.ptr (some q)) KV = KV (.ptr (some q)) := nr rfl
theorem cellAt_known {j : Nat} {v : AV} (h : σ.objs[j]? = some (.cells v)) (p : List Nat) : cellAt σ j p = v.at p := by simp only [cellAt, h, Option.bind_some, objCell]
theorem cellAt_known_app {j : Nat} {v : AV} (h : σ.objs[j]? = some (.cells v)) (p : List Nat) (d : List AObj) : cellAt (σ.app d) j p = v.at p := by
  have hj : j < σ.objs.length := (List.getElem?_eq_some_iff.1 h).1
  simp only [cellAt, AST.app, List.getElem?_append_left hj, h, Option.bind_some, objCell]
theorem objs_known_app {j : Nat} {o : AObj} (h : σ.objs[j]? = some o) (d : List AObj) : (σ.app d).objs[j]? = some o := by
  have hj : j < σ.objs.length := (List.getElem?_eq_some_iff.1 h).1
  simp only [AST.app, List.getElem?_append_left hj, h]
theorem objs_known_ext {j : Nat} {o : AObj} (h : σ.objs[j]? = some o) (hx : Ext σ σ') : σ'.objs[j]? = some o := by
  obtain ⟨O, T, rfl⟩ := hx
  have hj : j < σ.objs.length := (List.getElem?_eq_some_iff.1 h).1
  simp only [List.getElem?_append_left hj, h]
theorem cellAt_known_ext {j : Nat} {v : AV} (h : σ.objs[j]? = some (.cells v)) (hx : Ext σ σ') (p : List Nat) : cellAt σ' j p = v.at p := cellAt_known (objs_known_ext h hx) p
theorem keeps_none : keeps [] σ σ' = True := by simp only [eq_iff_iff, iff_true]; exact keeps_nil
theorem reads_nilCheck {ρ : Operand → AV} {x : Operand} : reads ρ (.nilCheck x) = [] := rfl
theorem keeps_app {ks : List Nat} {a b : List AObj} (h : ∀ k ∈ ks, k < σ.objs.length) : keeps ks (σ.app a) (σ.app b) := fun k hk => by
  simp only [AST.app]; rw [List.getElem?_append_left (h k hk), List.getElem?_append_left (h k hk)]
theorem keeps_push {ks : List Nat} {o : AObj} (h : ∀ k ∈ ks, k < σ.objs.length) : keeps ks σ (σ.push o) := fun k hk => by
  simp only [AST.push]; rw [List.getElem?_append_left (h k hk)]
attribute [go_sem] reads_nilCheck keeps_none nilCheck_some isPtrT bin_ptr_eql bin_ptr_neq Option.isNone_some Option.isNone_none

theorem sizes_all {c : Nat} : ∀ {l : List AV}, (∀ v ∈ l, v.size = c) → AV.sizes l = l.length * c
  | [], _ => by simp [AV.sizes]
  | v :: r, h => by
    have h1 := h v (by simp)
    have h2 := sizes_all (l := r) fun x hx => h x (by simp [hx])
    simp only [AV.sizes, h1, h2, List.length_cons, Nat.succ_mul]; omega

/-- A place of an array in memory. -/
theorem indexAddr_arr {t e n c : Nat} {j : Nat} {p : List Nat} {xs : List AV} {i : Nat} {x : AV} {q : IntKind} (hu : P.underlying t = some (.array n e)) (hc : P.cellsOf e = c) (hl : xs.length = n) (hs : ∀ v ∈ xs, v.size = c)
    (ho : cellAt σ j p = some (.agg xs)) (hi : xs[i]? = some x) (hf : fits P e x) (hK : KV (.ptr (some (j, p ++ [i])))) : indexAddrW P σ t (.ptr (some (j, p))) (.int q i) KV := by
  have hin : i < n := by rw [← hl]; exact (List.getElem?_eq_some_iff.1 hi).1
  have hpl : placeOf P t i = some (i * c, e) := by
    unfold placeOf
    rw [hu]; simp only; rw [if_pos hin, hc]
  have hsz : AV.sizes (xs.take i) = i * c := by
    rw [sizes_all (c := c) fun v hv => hs v (List.mem_of_mem_take hv), List.length_take, Nat.min_eq_left (by omega)]
  simp only [cellAt, Option.bind_eq_some_iff] at ho
  obtain ⟨o, h1, h2⟩ := ho
  cases o with
  | cells v =>
    simp only [objCell] at h2
    simp only [indexAddrW, h1, h2]
    refine ⟨by omega, by omega, fun z hz => ?_⟩
    simp only [Int.toNat_natCast] at hz ⊢
    rw [hi] at hz; cases hz
    refine ⟨⟨e, ?_, hf⟩, ⟨e, by rw [hl]; exact hu⟩, hK⟩
    rw [hpl, hsz]
  | _ => simp [objCell] at h2

/-- A place of a digest in memory. -/
theorem indexAddr_dig {t e : TypeId} {j : Nat} {p : List Nat} {d : Dig} {i : Nat} {q : IntKind} (hu : P.underlying t = some (.array 32 e)) (hf : fits P e (.int .u8 0)) (ho : cellAt σ j p = some (.dig d)) (hi : i < 32) (hK : KV (.ptr (some (j, p ++ [i])))) :
    indexAddrW P σ t (.ptr (some (j, p))) (.int q i) KV := by
  simp only [cellAt, Option.bind_eq_some_iff] at ho
  obtain ⟨o, h1, h2⟩ := ho
  cases o with
  | cells v =>
    simp only [objCell] at h2
    simp only [indexAddrW, h1, h2]
    refine ⟨by omega, by rw [d.h]; omega, fun z hz => ?_⟩
    exact ⟨⟨e, hu, hf⟩, by rw [Int.toNat_natCast]; exact hK⟩
  | _ => simp [objCell] at h2
theorem at_dig1 {d : Dig} {i : Nat} : (AV.dig d).at [i] = (d.l[i]?).map fun b => .int .u8 b.toNat := rfl
/-- A place of a slice of an array in memory. -/
theorem indexAddr_part {t e m c : Nat} {j : Nat} {p : List Nat} {xs : List AV} {i : Nat} {x : AV} {q : IntKind} (hu : P.underlying t = some (.slice e)) (hc : P.cellsOf e = c) (hm : m ≤ xs.length) (hs : ∀ v ∈ xs, v.size = c) (him : i < m)
    (ho : cellAt σ j p = some (.agg xs)) (hi : xs[i]? = some x) (hf : fits P e x) (hK : KV (.ptr (some (j, p ++ [i])))) : indexAddrW P σ t (.arr j p m) (.int q i) KV := by
  have hsz : AV.sizes (xs.take i) = i * c := by
    rw [sizes_all (c := c) fun v hv => hs v (List.mem_of_mem_take hv), List.length_take, Nat.min_eq_left (by omega)]
  simp only [cellAt, Option.bind_eq_some_iff] at ho
  obtain ⟨o, h1, h2⟩ := ho
  cases o with
  | cells v =>
    simp only [objCell] at h2
    simp only [indexAddrW, h1, h2]
    refine ⟨e, hu, hm, by rw [Int.toNat_natCast, hsz, hc], by omega, by rw [List.length_take]; omega, fun z hz => ?_⟩
    simp only [Int.toNat_natCast] at hz ⊢
    rw [List.getElem?_take, if_pos him, hi] at hz; cases hz
    exact ⟨hf, hK⟩
  | _ => simp [objCell] at h2
/-- An array in memory, sliced. -/
theorem slice_arr {t e n h : Nat} {j : Nat} {p : List Nat} {q : IntKind} (hu : P.underlying t = some (.array n e)) (hn : n ≤ maxL) (he : ∃ d, P.underlying e = some d) (hh : h ≤ n) (hK : KV (.arr j p h)) :
    sliceW P t (.ptr (some (j, p))) none (some (.int q h)) none KV := by
  refine ⟨e, n, .inr hu, hn, he, rfl, rfl, by omega, ?_⟩
  simp only [Int.toNat_natCast]; exact ⟨hh, hK⟩

theorem mm_min {k : IntKind} {a b : Int} : mmW false [.int k a, .int k b] KV = KV (.int k (min a b)) := by simp [mmW]
attribute [go_sem] mm_min
theorem res_ttc {a b c : Nat} {ty : TypeId} : resW P [.tmp a, .tmp b, .cell c ty] τ σ KV = loadW P σ ty (τ c) (@LamA _ ⟨fun x => ((τ a).known = true ∧ (τ b).known = true ∧ x.known = true) ∧ @Later ⟨KV (.tuple [τ a, τ b, x])⟩⟩) := by
  simp [resW, resList, oneRes, Later, LamA]
theorem res_ttt {a b c : Nat} : resW P [.tmp a, .tmp b, .tmp c] τ σ KV = (((τ a).known = true ∧ (τ b).known = true ∧ (τ c).known = true) ∧ @Later ⟨KV (.tuple [τ a, τ b, τ c])⟩) := by
  simp [resW, resList, oneRes, Later, LamA]
attribute [go_sem ↓] res_ttc
end Go.Aff

/- Layer 16, walked: types, values, small functions. -/
namespace Go.Aff.L16
open Go.Proofs Go.Aff Go.Aff.L09 Classical
set_option linter.unusedVariables false
set_option linter.unusedSimpArgs false
attribute [local go_sem] push_app app_app length_app cellAt_app cellAt_app0 set_app set_app0 objs_app objs_app0 List.cons_append List.nil_append List.length_cons List.length_nil List.getElem?_cons_zero List.getElem?_cons_succ List.set_cons_zero List.set_cons_succ
attribute [-go_sem] cellAt_new
theorem zero3 : zeroA Try.prog 12 3 = .int .i64 0 := by kernel_rfl
theorem zeroOf3 : ZeroOf Try.prog 3 (.int .i64 0) := ⟨_, _, rfl, rfl, rfl, rfl, rfl⟩
theorem fits4 {v : AV} : fits Try.prog 4 v = (v.isAgg = false ∧ v.size = 1) := fits_leaf (by kernel_rfl) (by kernel_rfl)
theorem zero4 : zeroA Try.prog 12 4 = .bool false := by kernel_rfl
theorem zeroOf4 : ZeroOf Try.prog 4 (.bool false) := ⟨_, _, rfl, rfl, rfl, rfl, rfl⟩
theorem fits5 {v : AV} : fits Try.prog 5 v = (v.isAgg = false ∧ v.size = 1) := fits_leaf (by kernel_rfl) (by kernel_rfl)
theorem zero5 : zeroA Try.prog 12 5 = .int .u8 0 := by kernel_rfl
theorem zeroOf5 : ZeroOf Try.prog 5 (.int .u8 0) := ⟨_, _, rfl, rfl, rfl, rfl, rfl⟩
theorem zero9 : zeroA Try.prog 12 9 = .str [] := by kernel_rfl
theorem zeroOf9 : ZeroOf Try.prog 9 (.str []) := ⟨_, _, rfl, rfl, rfl, rfl, rfl⟩
theorem fits22 {v : AV} : fits Try.prog 22 v = (v.isAgg = false ∧ v.size = 1) := fits_leaf (by kernel_rfl) (by kernel_rfl)
theorem zero22 : zeroA Try.prog 12 22 = .slice .full [] := by kernel_rfl
theorem zeroOf22 : ZeroOf Try.prog 22 (.slice .full []) := ⟨_, _, rfl, rfl, rfl, rfl, rfl⟩
theorem fits23 {v : AV} : fits Try.prog 23 v = (v.isAgg = false ∧ v.size = 1) := fits_leaf (by kernel_rfl) (by kernel_rfl)
theorem zero23 : zeroA Try.prog 12 23 = .ptr none := by kernel_rfl
theorem zeroOf23 : ZeroOf Try.prog 23 (.ptr none) := ⟨_, _, rfl, rfl, rfl, rfl, rfl⟩
theorem fits24 {v : AV} : fits Try.prog 24 v = (v.isAgg = false ∧ v.size = 1) := fits_leaf (by kernel_rfl) (by kernel_rfl)
theorem zero24 : zeroA Try.prog 12 24 = .int .i64 0 := by kernel_rfl
theorem zeroOf24 : ZeroOf Try.prog 24 (.int .i64 0) := ⟨_, _, rfl, rfl, rfl, rfl, rfl⟩
theorem fits30 {v : AV} : fits Try.prog 30 v = (v.isAgg = true ∧ v.size = 32) := fits_agg (by kernel_rfl) (by kernel_rfl)
theorem zero30 : zeroA Try.prog 12 30 = .dig dig0 := by kernel_rfl
theorem zeroOf30 : ZeroOf Try.prog 30 (.dig dig0) := ⟨_, _, rfl, rfl, rfl, rfl, rfl⟩
theorem built30 : Built Try.prog 30 := by unfold Built; rw [Try.underlying30]; decide +kernel
theorem fits33 {v : AV} : fits Try.prog 33 v = (v.isAgg = false ∧ v.size = 1) := fits_leaf (by kernel_rfl) (by kernel_rfl)
theorem zero33 : zeroA Try.prog 12 33 = .slice .full [] := by kernel_rfl
theorem zeroOf33 : ZeroOf Try.prog 33 (.slice .full []) := ⟨_, _, rfl, rfl, rfl, rfl, rfl⟩
theorem fits38 {v : AV} : fits Try.prog 38 v = (v.isAgg = true ∧ v.size = 35) := fits_agg (by kernel_rfl) (by kernel_rfl)
theorem p38_0 {ps : List AV} {x : AV} : partIs Try.prog 38 ps 0 x = (0 = AV.sizes (ps.take 0) ∧ fits Try.prog 3 x) := partIs_of (by kernel_rfl)
theorem p38_1 {ps : List AV} {x : AV} : partIs Try.prog 38 ps 1 x = (1 = AV.sizes (ps.take 1) ∧ fits Try.prog 3 x) := partIs_of (by kernel_rfl)
theorem p38_2 {ps : List AV} {x : AV} : partIs Try.prog 38 ps 2 x = (2 = AV.sizes (ps.take 2) ∧ fits Try.prog 9 x) := partIs_of (by kernel_rfl)
theorem p38_3 {ps : List AV} {x : AV} : partIs Try.prog 38 ps 3 x = (3 = AV.sizes (ps.take 3) ∧ fits Try.prog 30 x) := partIs_of (by kernel_rfl)
theorem zero38 : zeroA Try.prog 12 38 = .agg [.int .i64 0, .int .i64 0, .str [], .dig dig0] := by kernel_rfl
theorem zeroOf38 : ZeroOf Try.prog 38 (.agg [.int .i64 0, .int .i64 0, .str [], .dig dig0]) := ⟨_, _, rfl, rfl, rfl, rfl, rfl⟩
theorem built38 : Built Try.prog 38 := by unfold Built; rw [Try.underlying38]; decide +kernel
theorem fits42 {v : AV} : fits Try.prog 42 v = (v.isAgg = false ∧ v.size = 1) := fits_leaf (by kernel_rfl) (by kernel_rfl)
theorem zero42 : zeroA Try.prog 12 42 = .ptr none := by kernel_rfl
theorem zeroOf42 : ZeroOf Try.prog 42 (.ptr none) := ⟨_, _, rfl, rfl, rfl, rfl, rfl⟩
theorem fits54 {v : AV} : fits Try.prog 54 v = (v.isAgg = true ∧ v.size = 3) := fits_agg (by kernel_rfl) (by kernel_rfl)
theorem p54_0 {ps : List AV} {x : AV} : partIs Try.prog 54 ps 0 x = (0 = AV.sizes (ps.take 0) ∧ fits Try.prog 3 x) := partIs_of (by kernel_rfl)
theorem p54_1 {ps : List AV} {x : AV} : partIs Try.prog 54 ps 1 x = (1 = AV.sizes (ps.take 1) ∧ fits Try.prog 3 x) := partIs_of (by kernel_rfl)
theorem p54_2 {ps : List AV} {x : AV} : partIs Try.prog 54 ps 2 x = (2 = AV.sizes (ps.take 2) ∧ fits Try.prog 22 x) := partIs_of (by kernel_rfl)
theorem zero54 : zeroA Try.prog 12 54 = .agg [.int .i64 0, .int .i64 0, .slice .full []] := by kernel_rfl
theorem zeroOf54 : ZeroOf Try.prog 54 (.agg [.int .i64 0, .int .i64 0, .slice .full []]) := ⟨_, _, rfl, rfl, rfl, rfl, rfl⟩
theorem built54 : Built Try.prog 54 := by unfold Built; rw [Try.underlying54]; decide +kernel
theorem fits57 {v : AV} : fits Try.prog 57 v = (v.isAgg = true ∧ v.size = 2) := fits_agg (by kernel_rfl) (by kernel_rfl)
theorem p57_0 {ps : List AV} {x : AV} : partIs Try.prog 57 ps 0 x = (0 = AV.sizes (ps.take 0) ∧ fits Try.prog 9 x) := partIs_of (by kernel_rfl)
theorem p57_1 {ps : List AV} {x : AV} : partIs Try.prog 57 ps 1 x = (1 = AV.sizes (ps.take 1) ∧ fits Try.prog 9 x) := partIs_of (by kernel_rfl)
theorem zero57 : zeroA Try.prog 12 57 = .agg [.str [], .str []] := by kernel_rfl
theorem zeroOf57 : ZeroOf Try.prog 57 (.agg [.str [], .str []]) := ⟨_, _, rfl, rfl, rfl, rfl, rfl⟩
theorem built57 : Built Try.prog 57 := by unfold Built; rw [Try.underlying57]; decide +kernel
theorem fits58 {v : AV} : fits Try.prog 58 v = (v.isAgg = true ∧ v.size = 16) := fits_agg (by kernel_rfl) (by kernel_rfl)
theorem zero58 : zeroA Try.prog 12 58 = .agg [.agg [.str [], .str []], .agg [.str [], .str []], .agg [.str [], .str []], .agg [.str [], .str []], .agg [.str [], .str []], .agg [.str [], .str []], .agg [.str [], .str []], .agg [.str [], .str []]] := by kernel_rfl
theorem zeroOf58 : ZeroOf Try.prog 58 (.agg [.agg [.str [], .str []], .agg [.str [], .str []], .agg [.str [], .str []], .agg [.str [], .str []], .agg [.str [], .str []], .agg [.str [], .str []], .agg [.str [], .str []], .agg [.str [], .str []]]) := ⟨_, _, rfl, rfl, rfl, rfl, rfl⟩
theorem built58 : Built Try.prog 58 := by unfold Built; rw [Try.underlying58]; decide +kernel
theorem fits60 {v : AV} : fits Try.prog 60 v = (v.isAgg = true ∧ v.size = 52) := fits_agg (by kernel_rfl) (by kernel_rfl)
theorem p60_0 {ps : List AV} {x : AV} : partIs Try.prog 60 ps 0 x = (0 = AV.sizes (ps.take 0) ∧ fits Try.prog 3 x) := partIs_of (by kernel_rfl)
theorem p60_1 {ps : List AV} {x : AV} : partIs Try.prog 60 ps 1 x = (1 = AV.sizes (ps.take 1) ∧ fits Try.prog 3 x) := partIs_of (by kernel_rfl)
theorem p60_2 {ps : List AV} {x : AV} : partIs Try.prog 60 ps 2 x = (2 = AV.sizes (ps.take 2) ∧ fits Try.prog 58 x) := partIs_of (by kernel_rfl)
theorem p60_3 {ps : List AV} {x : AV} : partIs Try.prog 60 ps 3 x = (18 = AV.sizes (ps.take 3) ∧ fits Try.prog 9 x) := partIs_of (by kernel_rfl)
theorem p60_4 {ps : List AV} {x : AV} : partIs Try.prog 60 ps 4 x = (19 = AV.sizes (ps.take 4) ∧ fits Try.prog 3 x) := partIs_of (by kernel_rfl)
theorem p60_5 {ps : List AV} {x : AV} : partIs Try.prog 60 ps 5 x = (20 = AV.sizes (ps.take 5) ∧ fits Try.prog 30 x) := partIs_of (by kernel_rfl)
theorem zero60 : zeroA Try.prog 12 60 = .agg [.int .i64 0, .int .i64 0, .agg [.agg [.str [], .str []], .agg [.str [], .str []], .agg [.str [], .str []], .agg [.str [], .str []], .agg [.str [], .str []], .agg [.str [], .str []], .agg [.str [], .str []], .agg [.str [], .str []]], .str [], .int .i64 0, .dig dig0] := by kernel_rfl
theorem zeroOf60 : ZeroOf Try.prog 60 (.agg [.int .i64 0, .int .i64 0, .agg [.agg [.str [], .str []], .agg [.str [], .str []], .agg [.str [], .str []], .agg [.str [], .str []], .agg [.str [], .str []], .agg [.str [], .str []], .agg [.str [], .str []], .agg [.str [], .str []]], .str [], .int .i64 0, .dig dig0]) := ⟨_, _, rfl, rfl, rfl, rfl, rfl⟩
theorem built60 : Built Try.prog 60 := by unfold Built; rw [Try.underlying60]; decide +kernel
theorem fits66 {v : AV} : fits Try.prog 66 v = (v.isAgg = false ∧ v.size = 1) := fits_leaf (by kernel_rfl) (by kernel_rfl)
theorem zero66 : zeroA Try.prog 12 66 = .ptr none := by kernel_rfl
theorem zeroOf66 : ZeroOf Try.prog 66 (.ptr none) := ⟨_, _, rfl, rfl, rfl, rfl, rfl⟩
theorem fits69 {v : AV} : fits Try.prog 69 v = (v.isAgg = false ∧ v.size = 1) := fits_leaf (by kernel_rfl) (by kernel_rfl)
theorem zero69 : zeroA Try.prog 12 69 = .slice .full [] := by kernel_rfl
theorem zeroOf69 : ZeroOf Try.prog 69 (.slice .full []) := ⟨_, _, rfl, rfl, rfl, rfl, rfl⟩
theorem fits47 {v : AV} : fits Try.prog 47 v = (v.isAgg = true ∧ v.size = 4) := fits_agg (by kernel_rfl) (by kernel_rfl)
theorem p47_0 {ps : List AV} {x : AV} : partIs Try.prog 47 ps 0 x = (0 = AV.sizes (ps.take 0) ∧ fits Try.prog 3 x) := partIs_of (by kernel_rfl)
theorem p47_1 {ps : List AV} {x : AV} : partIs Try.prog 47 ps 1 x = (1 = AV.sizes (ps.take 1) ∧ fits Try.prog 3 x) := partIs_of (by kernel_rfl)
theorem p47_2 {ps : List AV} {x : AV} : partIs Try.prog 47 ps 2 x = (2 = AV.sizes (ps.take 2) ∧ fits Try.prog 22 x) := partIs_of (by kernel_rfl)
theorem p47_3 {ps : List AV} {x : AV} : partIs Try.prog 47 ps 3 x = (3 = AV.sizes (ps.take 3) ∧ fits Try.prog 3 x) := partIs_of (by kernel_rfl)
theorem zero47 : zeroA Try.prog 12 47 = .agg [.int .i64 0, .int .i64 0, .slice .full [], .int .i64 0] := by kernel_rfl
theorem zeroOf47 : ZeroOf Try.prog 47 (.agg [.int .i64 0, .int .i64 0, .slice .full [], .int .i64 0]) := ⟨_, _, rfl, rfl, rfl, rfl, rfl⟩
theorem built47 : Built Try.prog 47 := by unfold Built; rw [Try.underlying47]; decide +kernel
attribute [local go_sem] Try.underlying3 fits4 Try.underlying4 fits5 Try.underlying5 Try.underlying9 fits22 Try.underlying22 fits23 Try.underlying23 fits24 Try.underlying24 fits30 Try.underlying30 fits33 Try.underlying33 fits38 p38_0 p38_1 p38_2 p38_3 Try.underlying38 fits42 Try.underlying42 fits54 p54_0 p54_1 p54_2 Try.underlying54 fits57 p57_0 p57_1 Try.underlying57 fits58 Try.underlying58 fits60 p60_0 p60_1 p60_2 p60_3 p60_4 p60_5 Try.underlying60 fits66 Try.underlying66 fits69 Try.underlying69 fits47 p47_0 p47_1 p47_2 p47_3 Try.underlying47

def lineV (x : Line) : AV := .agg [.int .i64 x.src, .int .i64 x.by_, .str x.view, .dig x.tag]
def clV (p : List UInt8 × List UInt8) : AV := .agg [.str p.1, .str p.2]
def cls (l : List Line) : List (List UInt8 × List UInt8) := (List.range 8).map fun (i : Nat) => (word l i, own l i)
def kV (n me : Nat) (l : List Line) : AV := .agg [.int .i64 n, .int .i64 me, .agg ((cls l).map clV), .str (longest l).view, .int .i64 (longest l).by_, .dig (longest l).tag]
def xV (n me : Nat) (tk : Tk) (l : List Line) : AV := .agg [.int .i64 n, .int .i64 me, .slice tk (l.map lineV)]

theorem cls_len {l : List Line} : (cls l).length = 8 := by simp [cls]
theorem size_cl : ∀ {l : List (List UInt8 × List UInt8)}, ∀ v ∈ l.map clV, v.size = 2 := by
  intro l v hv; obtain ⟨x, _, rfl⟩ := List.mem_map.1 hv; simp [clV, AV.size, AV.sizes]
theorem sizes_cls {l : List Line} : AV.sizes ((cls l).map clV) = 16 := by
  rw [sizes_all size_cl, List.length_map, cls_len]
attribute [local go_sem] fits3 fits9 sizes_cls
theorem is_c {j n me : Nat} {l : List Line} {i : Int} {σ : AST} {K : AV → AST → Prop} (ho : σ.objs[j]? = some (.cells (kV n me l))) (hK : K (.bool (decide (0 ≤ i ∧ i < n))) σ) : TCalls Try.prog 35 [.ptr (some (j, [])), .int .i64 i] σ K := by
  refine tcalls_walk Try.f35 _ [.tmp 4] Try.func35 rfl rfl rfl mixed (Nat.le_of_ble_eq_true rfl) rfl fun hlen => ?_
  have hc := cellAt_known ho
  unfold kV at hc
  simp -dsimp only [↓reduceIte, go_sem, hc]
  refine guardV_split (fun h1 => ?_) (fun h1 => ?_) <;> (try rw [h1])
  · have h1 : 0 ≤ i := by simpa using h1
    simp -dsimp only [↓reduceIte, go_sem, hc]
    rw [show decide (0 ≤ i ∧ i < n) = decide (i < n) by simp [h1]] at hK
    exact hK
  · have h1 : ¬ 0 ≤ i := by simpa using h1
    rw [decide_eq_false (fun h => h1 h.1)] at hK
    simp -dsimp only [↓reduceIte, go_sem, hc]
    exact hK
theorem is_nil {i : Int} {σ : AST} {K : AV → AST → Prop} (hK : K (.bool false) σ) : TCalls Try.prog 35 [.ptr none, .int .i64 i] σ K := by
  refine tcalls_walk Try.f35 _ [.tmp 4] Try.func35 rfl rfl rfl mixed (Nat.le_of_ble_eq_true rfl) rfl fun hlen => ?_
  simp -dsimp only [↓reduceIte, go_sem]
  exact hK

theorem cls_get {l : List Line} {i : Nat} (hi : i < 8) : (cls l)[i]? = some (word l i, own l i) := by
  unfold cls
  rw [List.getElem?_map, List.getElem?_range hi]; rfl

theorem New_c {c me : Int} {σ : AST} {K : AV → AST → Prop} (h0 : ¬ (2 ≤ c ∧ c ≤ 8 ∧ 0 ≤ me ∧ me < c) → K (.tuple [.ptr none, .int .i64 2]) σ)
    (h1 : ∀ n m : Nat, c = n → me = m → 2 ≤ n → n ≤ 8 → m < n → K (.tuple [.ptr (some (σ.objs.length, [])), .int .i64 0]) (σ.app [.cells (kV n m [])])) : TCalls Try.prog 9 [.int .i64 c, .int .i64 me] σ K := by
  refine tcalls_walk Try.f9 _ [.tmp 4, .tmp 5] Try.func9 rfl rfl rfl mixed (Nat.le_of_ble_eq_true rfl) rfl fun hlen => ?_
  simp -dsimp only [↓reduceIte, go_sem]
  refine guardV_split (fun a1 => ?_) (fun a1 => ?_) <;> (try rw [a1])
  · have a1 : 2 ≤ c := by simpa using a1
    simp -dsimp only [↓reduceIte, go_sem]
    refine guardV_split (fun a2 => ?_) (fun a2 => ?_) <;> (try rw [a2])
    · have a2 : c ≤ 8 := by simpa using a2
      simp -dsimp only [↓reduceIte, go_sem]
      refine guardV_split (fun a3 => ?_) (fun a3 => ?_) <;> (try rw [a3])
      · have a3 : 0 ≤ me := by simpa using a3
        simp -dsimp only [↓reduceIte, go_sem]
        refine boolW_split (fun a4 => ?_) (fun a4 => ?_)
        · have a4 : c ≤ me := by simpa using a4
          simp -dsimp only [↓reduceIte, go_sem]
          exact h0 (by omega)
        · have a4 : me < c := by simpa using a4
          obtain ⟨n, rfl⟩ : ∃ n : Nat, c = n := ⟨c.toNat, by omega⟩
          obtain ⟨m, rfl⟩ : ∃ m : Nat, me = m := ⟨me.toNat, by omega⟩
          simp -dsimp only [↓reduceIte, go_sem]
          refine ⟨zeroOf60, rfl, built60, ?_⟩
          rw [zero60]
          refine fill_cons rfl (by rw [p60_0, fits3]; exact ⟨rfl, rfl, by simp [AV.size]⟩) rfl rfl ?_
          refine fill_cons rfl (by rw [p60_1, fits3]; exact ⟨by simp [AV.sizes, AV.size], rfl, by simp [AV.size]⟩) rfl rfl ?_
          refine fill_cons rfl (by rw [p60_4, fits3]; exact ⟨by simp [AV.sizes, AV.size], rfl, by simp [AV.size]⟩) rfl rfl ?_
          rw [fill_nil]
          simp -dsimp only [↓reduceIte, go_sem]
          exact h1 n m rfl rfl (by omega) (by omega) (by omega)
      · have a3 : ¬ 0 ≤ me := by simpa using a3
        simp -dsimp only [↓reduceIte, go_sem]
        exact h0 (by omega)
    · have a2 : ¬ c ≤ 8 := by simpa using a2
      simp -dsimp only [↓reduceIte, go_sem]
      exact h0 (by omega)
  · have a1 : ¬ 2 ≤ c := by simpa using a1
    simp -dsimp only [↓reduceIte, go_sem]
    exact h0 (by omega)

theorem longest_c {j n me : Nat} {l : List Line} {σ : AST} {K : AV → AST → Prop} (ho : σ.objs[j]? = some (.cells (kV n me l))) (hK : K (.tuple [.str (longest l).view, .int .i64 (longest l).by_, .dig (longest l).tag]) σ) : TCalls Try.prog 12 [.ptr (some (j, []))] σ K := by
  refine TCalls.drop ?_
  refine tcalls_walk Try.f12 _ [.tmp 2, .tmp 3, .cell 4 30] Try.func12 rfl rfl rfl mixed (Nat.le_of_ble_eq_true rfl) rfl fun hlen => ?_
  have hc := cellAt_known ho
  have hc' := cellAt_known_app ho
  unfold kV at hc hc'
  simp -dsimp only [↓reduceIte, go_sem, hc, hc']
  rw [zero30]
  refine ⟨zeroOf30, later_intro ?_⟩
  simp -dsimp only [↓reduceIte, go_sem, hc, hc']
  refine awp_drawF [(0, 2), (1, 2), (2, 2), (3, 2), (4, 2), (5, 2), (6, 2), (7, 2), (8, 2), (9, 2), (10, 2), (11, 2), (12, 2), (13, 2), (14, 1)] (by kernel_rfl) ?_
  simp -dsimp only [↓reduceIte, go_sem, hc, hc']
  refine later_intro ⟨keeps_nil, ?_⟩
  simp -dsimp only [↓reduceIte, go_sem, hc, hc']
  exact ⟨Ext.app _ _, rfl, hK⟩
theorem longest_nil {σ : AST} {K : AV → AST → Prop} (hK : K (.tuple [.str [], .int .i64 (-1), .dig dig0]) σ) : TCalls Try.prog 12 [.ptr none] σ K := by
  refine TCalls.drop ?_
  refine tcalls_walk Try.f12 _ [.tmp 2, .tmp 3, .cell 4 30] Try.func12 rfl rfl rfl mixed (Nat.le_of_ble_eq_true rfl) rfl fun hlen => ?_
  simp -dsimp only [↓reduceIte, go_sem]
  rw [zero30]
  refine ⟨zeroOf30, later_intro ?_⟩
  simp -dsimp only [↓reduceIte, go_sem]
  rw [zero30]
  refine ⟨zeroOf30, rfl, built30, ?_⟩
  rw [fill_nil]
  simp -dsimp only [↓reduceIte, go_sem]
  exact ⟨Ext.app _ _, rfl, hK⟩

theorem word_c {j n me : Nat} {l : List Line} {i : Int} {σ : AST} {K : AV → AST → Prop} (ho : σ.objs[j]? = some (.cells (kV n me l))) (hn : n ≤ 8) (hK : K (.str (if 0 ≤ i ∧ i < n then word l i else [])) σ) : TCalls Try.prog 21 [.ptr (some (j, [])), .int .i64 i] σ K := by
  refine tcalls_walk Try.f21 _ [.tmp 4] Try.func21 rfl rfl rfl mixed (Nat.le_of_ble_eq_true rfl) rfl fun hlen => ?_
  have hc := cellAt_known ho
  have hcc := hc [2]
  unfold kV at hc hcc
  simp -dsimp only [↓reduceIte, go_sem]
  refine is_c ho ?_
  simp -dsimp only [↓reduceIte, go_sem]
  by_cases hi : 0 ≤ i ∧ i < n
  · rw [if_pos hi] at hK
    rw [decide_eq_true hi]
    obtain ⟨m, rfl⟩ : ∃ m : Nat, i = m := ⟨i.toNat, by omega⟩
    have hm : m < 8 := by omega
    have hg : ((cls l).map clV)[m]? = some (clV (word l m, own l m)) := by rw [List.getElem?_map, cls_get hm]; rfl
    have hat : ∀ q, (AV.agg [.int .i64 n, .int .i64 me, .agg ((cls l).map clV), .str (longest l).view, .int .i64 (longest l).by_, .dig (longest l).tag]).at (2 :: m :: q) = (clV (word l m, own l m)).at q := fun q => by
      simp [AV.at, cls_get hm]
    simp -dsimp only [↓reduceIte, go_sem, hc]
    refine indexAddr_arr Try.underlying58 (by kernel_rfl) (by rw [List.length_map, cls_len]) size_cl (hcc.trans (by simp [AV.at])) hg (by rw [fits57]; exact ⟨rfl, by simp [clV, AV.size, AV.sizes]⟩) ?_
    simp -dsimp only [↓reduceIte, go_sem, hc, hat, clV]
    exact hK
  · rw [if_neg hi] at hK
    rw [decide_eq_false hi]
    simp -dsimp only [↓reduceIte, go_sem]
    exact hK
end Go.Aff.L16

/- Layer 16, walked: what is counted. -/
namespace Go.Aff.L16
open Go.Proofs Go.Aff Go.Aff.L09 Classical
set_option linter.unusedVariables false
set_option linter.unusedSimpArgs false
attribute [local go_sem] push_app app_app length_app cellAt_app cellAt_app0 set_app set_app0 objs_app objs_app0 List.cons_append List.nil_append List.length_cons List.length_nil List.getElem?_cons_zero List.getElem?_cons_succ List.set_cons_zero List.set_cons_succ
attribute [local go_sem] Try.underlying3 fits4 Try.underlying4 fits5 Try.underlying5 Try.underlying9 fits22 Try.underlying22 fits23 Try.underlying23 fits24 Try.underlying24 fits30 Try.underlying30 fits33 Try.underlying33 fits38 p38_0 p38_1 p38_2 p38_3 Try.underlying38 fits42 Try.underlying42 fits54 p54_0 p54_1 p54_2 Try.underlying54 fits57 p57_0 p57_1 Try.underlying57 fits58 Try.underlying58 fits60 p60_0 p60_1 p60_2 p60_3 p60_4 p60_5 Try.underlying60 fits66 Try.underlying66 fits69 Try.underlying69 fits47 p47_0 p47_1 p47_2 p47_3 Try.underlying47
attribute [local go_sem] fits3 fits9 sizes_cls
attribute [-go_sem] cellAt_new

theorem word_nil {i : Int} {σ : AST} {K : AV → AST → Prop} (hK : K (.str []) σ) : TCalls Try.prog 21 [.ptr none, .int .i64 i] σ K := by
  refine tcalls_walk Try.f21 _ [.tmp 4] Try.func21 rfl rfl rfl mixed (Nat.le_of_ble_eq_true rfl) rfl fun hlen => ?_
  simp -dsimp only [↓reduceIte, go_sem]
  refine is_nil ?_
  simp -dsimp only [↓reduceIte, go_sem]
  exact hK
theorem own_nil {i : Int} {σ : AST} {K : AV → AST → Prop} (hK : K (.str []) σ) : TCalls Try.prog 23 [.ptr none, .int .i64 i] σ K := by
  refine tcalls_walk Try.f23 _ [.tmp 4] Try.func23 rfl rfl rfl mixed (Nat.le_of_ble_eq_true rfl) rfl fun hlen => ?_
  simp -dsimp only [↓reduceIte, go_sem]
  refine is_nil ?_
  simp -dsimp only [↓reduceIte, go_sem]
  exact hK
theorem own_c {j n me : Nat} {l : List Line} {i : Int} {σ : AST} {K : AV → AST → Prop} (ho : σ.objs[j]? = some (.cells (kV n me l))) (hn : n ≤ 8) (hK : K (.str (if 0 ≤ i ∧ i < n then own l i else [])) σ) : TCalls Try.prog 23 [.ptr (some (j, [])), .int .i64 i] σ K := by
  refine tcalls_walk Try.f23 _ [.tmp 4] Try.func23 rfl rfl rfl mixed (Nat.le_of_ble_eq_true rfl) rfl fun hlen => ?_
  have hc := cellAt_known ho
  have hcc := hc [2]
  unfold kV at hc hcc
  simp -dsimp only [↓reduceIte, go_sem]
  refine is_c ho ?_
  simp -dsimp only [↓reduceIte, go_sem]
  by_cases hi : 0 ≤ i ∧ i < n
  · rw [if_pos hi] at hK
    rw [decide_eq_true hi]
    obtain ⟨m, rfl⟩ : ∃ m : Nat, i = m := ⟨i.toNat, by omega⟩
    have hm : m < 8 := by omega
    have hg : ((cls l).map clV)[m]? = some (clV (word l m, own l m)) := by rw [List.getElem?_map, cls_get hm]; rfl
    have hat : ∀ q, (AV.agg [.int .i64 n, .int .i64 me, .agg ((cls l).map clV), .str (longest l).view, .int .i64 (longest l).by_, .dig (longest l).tag]).at (2 :: m :: q) = (clV (word l m, own l m)).at q := fun q => by
      simp [AV.at, cls_get hm]
    simp -dsimp only [↓reduceIte, go_sem, hc]
    refine indexAddr_arr Try.underlying58 (by kernel_rfl) (by rw [List.length_map, cls_len]) size_cl (hcc.trans (by simp [AV.at])) hg (by rw [fits57]; exact ⟨rfl, by simp [clV, AV.size, AV.sizes]⟩) ?_
    simp -dsimp only [↓reduceIte, go_sem, hc, hat, clV]
    exact hK
  · rw [if_neg hi] at hK
    rw [decide_eq_false hi]
    simp -dsimp only [↓reduceIte, go_sem]
    exact hK

theorem pickw_c {p : List UInt8 × List UInt8} {σ : AST} {K : AV → AST → Prop} (hK : K (.str p.1) σ) : TCalls Try.prog 32 [clV p] σ K := by
  refine TCalls.drop ?_
  unfold clV
  refine tcalls_walk Try.f32 _ [.tmp 2] Try.func32 rfl rfl rfl mixed (Nat.le_of_ble_eq_true rfl) rfl fun hlen => ?_
  simp -dsimp only [↓reduceIte, go_sem]
  exact ⟨Ext.app _ _, rfl, hK⟩
theorem picko_c {p : List UInt8 × List UInt8} {σ : AST} {K : AV → AST → Prop} (hK : K (.str p.2) σ) : TCalls Try.prog 34 [clV p] σ K := by
  refine TCalls.drop ?_
  unfold clV
  refine tcalls_walk Try.f34 _ [.tmp 2] Try.func34 rfl rfl rfl mixed (Nat.le_of_ble_eq_true rfl) rfl fun hlen => ?_
  simp -dsimp only [↓reduceIte, go_sem]
  exact ⟨Ext.app _ _, rfl, hK⟩

theorem E33 : ElemT Try.prog 33 3 1 8 := ⟨rfl, by kernel_rfl, by kernel_rfl, ⟨.int .i64 0, ⟨_, _, rfl, rfl, rfl, rfl, rfl⟩⟩, by decide⟩
theorem size_ints : ∀ {l : List Int}, ∀ v ∈ l.map (AV.int .i64), v.size = 1 := by
  intro l v hv; obtain ⟨x, _, rfl⟩ := List.mem_map.1 hv; simp [AV.size]
theorem strip_int (x : Int) : (AV.int .i64 x).strip = AV.int .i64 x := by simp [AV.strip]

theorem counts_c {f : Nat} {g : List UInt8 × List UInt8 → List UInt8} (hf : ∀ p {σ : AST} {K : AV → AST → Prop}, K (.str (g p)) σ → TCalls Try.prog f [clV p] σ K) {j n me : Nat} {l : List Line} {σ : AST} {K : AV → AST → Prop} (ho : σ.objs[j]? = some (.cells (kV n me l))) (hn : n ≤ 8)
    (hK : K (slS (AV.int .i64) (((cls l).take n).map fun p => ((cnt me (g p) : Nat) : Int))) σ) : TCalls Try.prog 31 [.ptr (some (j, [])), .fn (.func f) [] []] σ K := by
  refine TCalls.drop ?_
  refine tcalls_walk Try.f31 _ [.tmp 4] Try.func31 rfl rfl rfl mixed (Nat.le_of_ble_eq_true rfl) rfl fun hlen => ?_
  have hc := cellAt_known ho
  have hcc := hc [2]
  unfold kV at hc hcc
  simp -dsimp only [↓reduceIte, go_sem, hc]
  refine awp_drawF [(0, 2), (1, 2), (2, 2), (3, 2), (4, 2), (5, 2), (6, 2), (7, 2), (8, 2), (9, 2)] (by kernel_rfl) ?_
  simp -dsimp only [↓reduceIte, go_sem, hc]
  refine slice_arr Try.underlying58 (by decide) ⟨_, Try.underlying57⟩ hn ?_
  simp -dsimp only [↓reduceIte, go_sem, hc]
  refine fun _ => ?_
  refine later_intro ?_
  simp -dsimp only [↓reduceIte, go_sem, hc]
  have hlen' : ∀ i, i ≤ n → (((cls l).take i).map fun p => ((cnt me (g p) : Nat) : Int)).length = i := fun i hi => by simp [cls_len]; omega
  refine awp_rounds (fun (i : Nat) τ s => ∃ tk, i ≤ n ∧ Ext σ s ∧ tkNew σ tk ∧ canApp s tk i 1 ∧ (i = 0 → tk = .full) ∧ (0 < i → ∃ k, tk = .own k) ∧ τ 0 = .ptr (some (j, [])) ∧ τ 1 = .fn (.func f) [] [] ∧ τ 5 = .slice tk ((((cls l).take i).map fun p => ((cnt me (g p) : Nat) : Int)).map (AV.int .i64)) ∧ τ 15 = .arr j [2] n ∧ τ 16 = .int .i64 n ∧ τ 17 = .int .i64 i) (fun i => n - i) 0 ?_ ?_
  · refine ⟨.full, by omega, Ext.refl _, .inl rfl, trivial, fun _ => rfl, fun h => by omega, ?_, ?_, ?_, ?_, ?_, ?_⟩ <;> (try simp only [go_sem]) <;> rfl
  · rintro i τ s ⟨tk, hi, hx, htk, hcan, hz, hp, t0, t1, t5, t15, t16, t17⟩
    have ho' := objs_known_ext ho hx
    have hc := cellAt_known ho'
    have hcc := hc [2]
    have hc' := cellAt_known_app ho'
    unfold kV at hc hcc hc'
    simp -dsimp only [↓reduceIte, go_sem, t0, t1, t5, t15, t16, t17]
    refine boolW_split (fun hb => ?_) (fun hb => ?_)
    · have hb : i < n := by simp at hb; omega
      have hg : ((cls l).map clV)[i]? = some (clV (word l i, own l i)) := by rw [List.getElem?_map, cls_get (by omega)]; rfl
      have hat : ∀ q, (AV.agg [.int .i64 n, .int .i64 me, .agg ((cls l).map clV), .str (longest l).view, .int .i64 (longest l).by_, .dig (longest l).tag]).at (2 :: i :: q) = (clV (word l i, own l i)).at q := fun q => by
        simp [AV.at, cls_get (show i < 8 by omega)]
      have hcl : (clV (word l i, own l i)).isAgg = true ∧ (clV (word l i, own l i)).size = 2 := ⟨rfl, by simp [clV, AV.size, AV.sizes]⟩
      have hkn : (clV (word l i, own l i)).known = true := rfl
      have hsh : (clV (word l i, own l i)).shape = .node [.leaf, .leaf] := rfl
      simp -dsimp only [↓reduceIte, go_sem, t0, t1, t5, t15, t16, t17]
      refine indexAddr_part Try.underlying69 (by kernel_rfl) (by rw [List.length_map, cls_len]; omega) size_cl hb (hcc.trans (by simp [AV.at])) hg (by rw [fits57]; exact hcl) ?_
      simp -dsimp only [↓reduceIte, go_sem, t0, t1, t5, t15, t16, t17, hc, hat, hcl, hkn, hsh]
      rw [zero57]
      refine ⟨zeroOf57, later_intro ?_⟩
      simp -dsimp only [↓reduceIte, go_sem, t0, t1, t5, t15, t16, t17, hc, hat, hcl, hkn, hsh]
      refine awp_drawF [(0, 0), (1, 0), (2, 0), (4, 0), (5, 0), (6, 0), (7, 0), (3, 1), (8, 1), (9, 2), (10, 1), (11, 2)] (by kernel_rfl) ?_
      simp -dsimp only [↓reduceIte, go_sem, t0, t1, t5, t15, t16, t17, hc, hc', hat, hcl, hkn, hsh]
      refine hf _ ?_
      simp -dsimp only [↓reduceIte, go_sem, t0, t1, t5, t15, t16, t17, hc, hc', hat, hcl, hkn, hsh]
      refine later_intro ⟨fun _ _ => rfl, ?_⟩
      simp -dsimp only [↓reduceIte, go_sem, t0, t1, t5, t15, t16, t17, hc, hc', hat, hcl, hkn, hsh]
      refine count_c ?_
      simp -dsimp only [↓reduceIte, go_sem, t0, t1, t5, t15, t16, t17, hc, hc', hat, hcl, hkn, hsh]
      refine later_intro ⟨fun _ _ => rfl, ?_⟩
      simp -dsimp only [↓reduceIte, go_sem, t0, t1, t5, t15, t16, t17, hc, hc', hat, hcl, hkn, hsh]
      refine build_slice E33 rfl (by decide) ?_ ?_
      · intro v hv
        simp at hv; subst hv
        exact ⟨by simp only [go_sem], rfl⟩
      simp -dsimp only [↓reduceIte, go_sem, t0, t1, t5, t15, t16, t17, hc, hc', hat, hcl, hkn, hsh]
      have hl1 := hlen' i (by omega)
      have htake : (cls l).take (i + 1) = (cls l).take i ++ [(word l i, own l i)] := by rw [List.take_add_one, cls_get (by omega)]; rfl
      refine append_slice E33 (by rfl) (by rw [canApp_app, List.length_map, hl1]; exact hcan) (by intro v hv; simp at hv; subst hv; simp [AV.size]) size_ints (by rw [List.length_map, hl1]; simp; omega) (by rw [List.length_map, hl1]; simp [maxL]; omega) ?_
      rw [List.length_map, hl1, growT_app, growS_app]
      refine later_intro (later_intro ⟨fun k _ => by rw [show ∀ t, ((growS s tk t 1).app [AObj.cells (clV (word l i, own l i))]).objs = (s.app [AObj.cells (clV (word l i, own l i))]).objs from fun t => by cases tk <;> rfl], ?_⟩)
      simp -dsimp only [↓reduceIte, go_sem, t0, t1, t5, t15, t16, t17]
      rw [wrap_i64 (by omega) (by omega)]
      refine later_intro ⟨i + 1, by omega, growT s tk, by omega, (hx.grow htk).trans (Ext.app _ _), htk.grow hx, ?_, fun h => by omega, fun _ => ?_, ?_, ?_, ?_, ?_, ?_, ?_⟩ <;> (try simp only [go_sem, t0, t1, t5, t15, t16, t17]) <;> (try rfl)
      · rw [canApp_app]; exact canApp_grow hcan
      · rcases htk with h | ⟨k, h, _⟩
        · subst h; exact ⟨_, rfl⟩
        · subst h; exact ⟨_, rfl⟩
      · rw [htake, List.map_append, List.map_append]; rfl
    · have hb : i = n := by simp at hb; omega
      subst hb
      simp -dsimp only [↓reduceIte, go_sem, t0, t1, t5, t15, t16, t17]
      refine ⟨hx, noRefs_leaf (fun _ => rfl), ?_⟩
      have hF : tkF (((cls l).take i).map fun p => ((cnt me (g p) : Nat) : Int)) tk := by
        have := hlen' i (Nat.le_refl _)
        by_cases h0 : i = 0
        · exact .inl ⟨List.length_eq_zero_iff.1 (by omega), hz h0⟩
        · refine .inr ⟨fun h => ?_, hp (by omega)⟩
          rw [h] at this; simp at this; omega
      rw [strip_tkF strip_int hF]
      exact hK
end Go.Aff.L16

