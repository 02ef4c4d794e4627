import Derived.Test.YtipnjeciaagabaaG14

set_option linter.unusedSimpArgs false
set_option linter.unusedVariables false

/- Walking: values, with facts about the program's types as conditions. -/
namespace Go.Aff
set_option linter.unusedVariables false
set_option linter.unusedSimpArgs false

variable {P : Program} {σ : AST} {K : AV → AST → Prop} {KV : AV → Prop}

theorem bin_int {op : BinOp} {t : TypeId} {k : IntKind} {a b : Int} : binW P op t (.int k a) (.int k b) KV = intW op k a b KV := by simp [binW]
theorem bin_str {op : BinOp} {t : TypeId} {a b : List UInt8} : binW P op t (.str a) (.str b) KV = strW op a b KV := nr rfl
theorem bin_bool_eq {t : TypeId} {a b : Bool} (hu : P.underlying t = some .bool) : binW P .eql t (.bool a) (.bool b) KV = KV (.bool (a == b)) := by
  simp [binW, eqW, eqA, hu]
theorem bin_bool_ne {t : TypeId} {a b : Bool} (hu : P.underlying t = some .bool) : binW P .neq t (.bool a) (.bool b) KV = KV (.bool !(a == b)) := by
  simp [binW, eqW, eqA, hu]
theorem int_add {k : IntKind} {a b : Int} : intW .add k a b KV = KV (.int k (k.wrap (a + b))) := nr rfl
theorem int_sub {k : IntKind} {a b : Int} : intW .sub k a b KV = KV (.int k (k.wrap (a - b))) := nr rfl
theorem int_mul {k : IntKind} {a b : Int} : intW .mul k a b KV = KV (.int k (k.wrap (a * b))) := nr rfl
theorem int_quo {k : IntKind} {a b : Int} : intW .quo k a b KV = (b ≠ 0 ∧ @Later ⟨KV (.int k (k.wrap (a.tdiv b)))⟩) := nr rfl
theorem int_rem {k : IntKind} {a b : Int} : intW .rem k a b KV = (b ≠ 0 ∧ @Later ⟨KV (.int k (a.tmod b))⟩) := nr rfl
theorem int_eql {k : IntKind} {a b : Int} : intW .eql k a b KV = KV (.bool (a == b)) := nr rfl
theorem int_neq {k : IntKind} {a b : Int} : intW .neq k a b KV = KV (.bool (a != b)) := nr rfl
theorem int_lss {k : IntKind} {a b : Int} : intW .lss k a b KV = KV (.bool (decide (a < b))) := nr rfl
theorem int_leq {k : IntKind} {a b : Int} : intW .leq k a b KV = KV (.bool (decide (a ≤ b))) := nr rfl
theorem int_gtr {k : IntKind} {a b : Int} : intW .gtr k a b KV = KV (.bool (decide (b < a))) := nr rfl
theorem int_geq {k : IntKind} {a b : Int} : intW .geq k a b KV = KV (.bool (decide (b ≤ a))) := nr rfl
theorem str_add {a b : List UInt8} : strW .add a b KV = (a.length + b.length ≤ maxL ∧ @Later ⟨KV (.str (a ++ b))⟩) := nr rfl
theorem str_eql {a b : List UInt8} : strW .eql a b KV = KV (.bool (a == b)) := nr rfl
theorem str_neq {a b : List UInt8} : strW .neq a b KV = KV (.bool !(a == b)) := nr rfl
theorem str_lss {a b : List UInt8} : strW .lss a b KV = KV (.bool (Op.bytesLess a b)) := nr rfl
theorem str_leq {a b : List UInt8} : strW .leq a b KV = KV (.bool (Op.bytesLess a b || a == b)) := nr rfl
theorem str_gtr {a b : List UInt8} : strW .gtr a b KV = KV (.bool !(Op.bytesLess a b || a == b)) := nr rfl
theorem str_geq {a b : List UInt8} : strW .geq a b KV = KV (.bool !(Op.bytesLess a b)) := nr rfl
theorem un_not {b : Bool} : unW .not (.bool b) KV = KV (.bool !b) := nr rfl
theorem un_neg {k : IntKind} {n : Int} : unW .neg (.int k n) KV = KV (.int k (k.wrap (0 - n))) := nr rfl

theorem len_str {t : TypeId} {s : List UInt8} (hu : P.underlying t = some .string) : lenW P ⟨[t]⟩ (.str s) KV = (s.length ≤ maxL → @Later ⟨KV (.int .i64 s.length)⟩) := by
  simp [lenW, hu, Later]
theorem len_arr {t : TypeId} (hu : isSliceT P t = true) {i n : Nat} {p : List Nat} : lenW P ⟨[t]⟩ (.arr i p n) KV = (n ≤ maxL → @Later ⟨KV (.int .i64 n)⟩) := by
  simp [lenW, isSliceT_iff hu, Later]
theorem len_slice {t : TypeId} (hu : isSliceT P t = true) {tk : Tk} {xs : List AV} : lenW P ⟨[t]⟩ (.slice tk xs) KV = (xs.length ≤ maxL → @Later ⟨KV (.int .i64 xs.length)⟩) := by
  simp [lenW, isSliceT_iff hu, Later]
theorem indexAddr_slice {t : TypeId} (hu : isSliceT P t = true) {tk : Tk} {xs : List AV} {k : IntKind} {n : Int} :
    indexAddrW P σ t (.slice tk xs) (.int k n) KV = nthW xs n (@LamA _ ⟨fun x => fits P (elemT P t) x ∧ 0 < x.size ∧ @Later ⟨KV (.eptr x)⟩⟩) := by
  simp [indexAddrW, isSliceT_iff hu, LamA, Later]
theorem load_eptr {t : TypeId} {v : AV} : loadW P σ t (.eptr v) KV = (fits P t v ∧ @Later ⟨KV v⟩) := nr rfl
theorem nth_map {α β : Type} {f : α → β} {l : List α} {n : Int} {K : β → Prop} : nthW (l.map f) n K = nthW l n (@LamA _ ⟨fun x => K (f x)⟩) := by
  show _ = nthW l n fun x => K (f x)
  simp only [nthW, List.length_map, List.getElem?_map, Option.map_eq_some_iff]
  simp
theorem fits_leaf {t : TypeId} (ha : aggT P t = some false) (hc : P.cellsOf t = 1) {v : AV} : fits P t v = (v.isAgg = false ∧ v.size = 1) := by
  simp only [fits, ha, hc, Option.some.injEq, eq_iff_iff]
  constructor
  · rintro ⟨h1, h2⟩; exact ⟨h1.symm, h2.symm⟩
  · rintro ⟨h1, h2⟩; exact ⟨h1.symm, h2.symm⟩
theorem isAgg_str {s : List UInt8} : (AV.str s).isAgg = false := nr rfl
theorem isAgg_int {k : IntKind} {n : Int} : (AV.int k n).isAgg = false := nr rfl
theorem isAgg_bool {b : Bool} : (AV.bool b).isAgg = false := nr rfl
theorem isAgg_slice {tk : Tk} {xs : List AV} : (AV.slice tk xs).isAgg = false := nr rfl
theorem isAgg_ptr {p : Option (Nat × List Nat)} : (AV.ptr p).isAgg = false := nr rfl
theorem isAgg_fn {f : Fn} {a b : List AV} : (AV.fn f a b).isAgg = false := nr rfl
theorem isAgg_mp {r : Option Nat} : (AV.mp r).isAgg = false := nr rfl
theorem isAgg_agg {ps : List AV} : (AV.agg ps).isAgg = true := nr rfl
theorem isAgg_dig {d : Dig} : (AV.dig d).isAgg = true := nr rfl
theorem size_str {s : List UInt8} : (AV.str s).size = 1 := by simp [AV.size]
theorem size_int {k : IntKind} {n : Int} : (AV.int k n).size = 1 := by simp [AV.size]
theorem size_bool {b : Bool} : (AV.bool b).size = 1 := by simp [AV.size]
theorem size_slice {tk : Tk} {xs : List AV} : (AV.slice tk xs).size = 1 := by simp [AV.size]
theorem size_ptr {p : Option (Nat × List Nat)} : (AV.ptr p).size = 1 := by simp [AV.size]
theorem size_fn {f : Fn} {a b : List AV} : (AV.fn f a b).size = 1 := by simp [AV.size]
theorem size_mp {r : Option Nat} : (AV.mp r).size = 1 := by simp [AV.size]
theorem size_agg {ps : List AV} : (AV.agg ps).size = AV.sizes ps := by simp [AV.size]
theorem size_dig {d : Dig} : (AV.dig d).size = 32 := by simp [AV.size]
theorem sizes_nil : AV.sizes [] = 0 := by simp [AV.sizes]
theorem sizes_cons {p : AV} {ps : List AV} : AV.sizes (p :: ps) = p.size + AV.sizes ps := by simp [AV.sizes]
theorem bool_tt : (true = true) = True := by simp
theorem bool_tf : (true = false) = False := by simp
theorem bool_ft : (false = true) = False := by simp
theorem bool_ff : (false = false) = True := by simp
theorem true_arr {p : Prop} : (True → p) = p := by simp
theorem false_arr {p : Prop} : (False → p) = True := by simp
theorem toNat_cast {n : Nat} : ((n : Int)).toNat = n := by simp

theorem slice_str {t : TypeId} {s : List UInt8} {lo hi : Option AV} (hu : P.underlying t = some .string) :
    sliceW P t (.str s) lo hi none KV = bndW lo 0 fun l => bndW hi s.length fun h => l ≤ h ∧ h ≤ s.length ∧ @Later ⟨KV (.str ((s.take h).drop l))⟩ := by
  simp [sliceW, hu, Later]
theorem bnd_none {d : Nat} {KN : Nat → Prop} : bndW none d KN = KN d := nr rfl
theorem bnd_some {d : Nat} {KN : Nat → Prop} {k : IntKind} {n : Int} : bndW (some (.int k n)) d KN = (0 ≤ n ∧ @Later ⟨KN n.toNat⟩) := nr rfl
theorem index_str {t : TypeId} {s : List UInt8} {k : IntKind} {n : Int} (hu : P.underlying t = some .string) : indexW P t (.str s) (.int k n) KV = nthW s n (@LamA _ ⟨fun b => KV (.int .u8 b.toNat)⟩) := by
  simp [indexW, hu, LamA]
theorem conv_int {s d : TypeId} {k' : IntKind} {n : Int} (hd : isIntT P d = true) (hs : isIntT P s = true) : convW P s d (.int k' n) σ K = K (.int (kindT P d) ((kindT P d).wrap n)) σ := by
  simp [convW, isIntT_iff hd, isIntT_iff hs]
theorem conv_str {s d : TypeId} {l : List UInt8} (hd : P.underlying d = some .string) (hs : P.underlying s = some .string) : convW P s d (.str l) σ K = K (.str l) σ := by
  simp [convW, hd, hs]

/-! ### Results -/
theorem res_one {rs : List ResultVar} {r : ResultVar} {τ : Env} (h : rs = [r]) : resW P rs τ σ KV = oneRes P τ σ r KV := by subst h; rfl
theorem one_tmp {t : Nat} {τ : Env} : oneRes P τ σ (.tmp t) KV = KV (τ t) := nr rfl

/-! ### Exits -/
theorem thenQ_normal {KE : Env → AST → Prop} {Q : Exit → Env → AST → Prop} : thenQ KE Q .normal = KE := nr rfl
theorem thenQ_ret {KE : Env → AST → Prop} {Q : Exit → Env → AST → Prop} : thenQ KE Q .ret = Q .ret := nr rfl
theorem thenQ_exit {KE : Env → AST → Prop} {Q : Exit → Env → AST → Prop} {id : Nat} : thenQ KE Q (.exit id) = Q (.exit id) := nr rfl
theorem blockQ_normal {id : Nat} {Q : Exit → Env → AST → Prop} : blockQ id Q .normal = Q .normal := nr rfl
theorem blockQ_ret {id : Nat} {Q : Exit → Env → AST → Prop} : blockQ id Q .ret = Q .ret := nr rfl
theorem blockQ_exit {id : Nat} {Q : Exit → Env → AST → Prop} : blockQ id Q (.exit id) = Q .normal := by funext τ σ; simp [blockQ]
theorem blockQ_other {id j : Nat} {Q : Exit → Env → AST → Prop} (h : (j == id) = false) : blockQ id Q (.exit j) = Q (.exit j) := by
  funext τ σ; simp only [blockQ]; rw [if_neg (by simpa using h)]

/-- The end of a function: the results' places are known. -/
def endQ (P : Program) (rs : List ResultVar) (K : AV → AST → Prop) : Exit → Env → AST → Prop
  | .normal, τ, σ | .ret, τ, σ => resW P rs τ σ fun v => K v σ
  | _, _, _ => False
theorem endQ_normal {rs : List ResultVar} {τ : Env} : endQ P rs K .normal τ σ = resW P rs τ σ (At K σ) := nr rfl
theorem endQ_ret {rs : List ResultVar} {τ : Env} : endQ P rs K .ret τ σ = resW P rs τ σ (At K σ) := nr rfl
theorem res_one' {r : ResultVar} {τ : Env} : resW P [r] τ σ KV = oneRes P τ σ r KV := nr rfl

theorem awp_seq {a b : Code} {Q : Exit → Env → AST → Prop} {τ : Env} : awp P (.seq a b) Q τ σ = awp P a (thenQ (@LamE ⟨fun τ σ => awp P b Q τ σ⟩) Q) τ σ := nr rfl
theorem awp_region' {id : Nat} {l : List Oper} {Q : Exit → Env → AST → Prop} {τ : Env} : awp P (.region id ⟨l⟩ false) Q τ σ = awpSeq P ⟨l⟩ l τ σ (Q .normal) := nr rfl
theorem awp_cond' {c : Operand} {a b : Code} {Q : Exit → Env → AST → Prop} {τ : Env} : awp P (.cond c a b) Q τ σ = boolW (ev τ c) (@Later ⟨awp P a Q τ σ⟩) (@Later ⟨awp P b Q τ σ⟩) := nr rfl
theorem awp_block' {id : Nat} {c : Code} {Q : Exit → Env → AST → Prop} {τ : Env} : awp P (.block id c) Q τ σ = awp P c (blockQ id Q) τ σ := nr rfl
theorem awp_scope' {c : Code} {Q : Exit → Env → AST → Prop} {τ : Env} : awp P (.scope c) Q τ σ = awp P c (noGotoQ Q) τ σ := nr rfl
theorem awp_label' {l : Nat} {Q : Exit → Env → AST → Prop} {τ : Env} : awp P (.label l) Q τ σ = Q .normal τ σ := nr rfl
theorem noGotoQ_normal {Q : Exit → Env → AST → Prop} : noGotoQ Q .normal = Q .normal := nr rfl
theorem noGotoQ_ret {Q : Exit → Env → AST → Prop} : noGotoQ Q .ret = Q .ret := nr rfl
theorem noGotoQ_exit {id : Nat} {Q : Exit → Env → AST → Prop} : noGotoQ Q (.exit id) = Q (.exit id) := nr rfl
theorem blockQ_exit2 {id j : Nat} {Q : Exit → Env → AST → Prop} : blockQ id Q (.exit j) = if j = id then Q .normal else Q (.exit j) := by
  funext τ σ; simp only [blockQ]; split <;> rfl
theorem awp_skip' {Q : Exit → Env → AST → Prop} {τ : Env} : awp P .skip Q τ σ = Q .normal τ σ := nr rfl
theorem awp_ret' {Q : Exit → Env → AST → Prop} {τ : Env} : awp P .ret Q τ σ = Q .ret τ σ := nr rfl
theorem awp_exit' {id : Nat} {Q : Exit → Env → AST → Prop} {τ : Env} : awp P (.exit id) Q τ σ = Q (.exit id) τ σ := nr rfl

theorem env_zero {a : AV} {l : List AV} : env0 (a :: l) 0 = a := nr rfl
theorem env_succ {a : AV} {l : List AV} {n : Nat} : env0 (a :: l) (n + 1) = env0 l n := nr rfl
theorem env_nil {n : Nat} : env0 [] n = .undef := by cases n <;> rfl

theorem awp_loop_of {α : Type} {c : Code} {Q : Exit → Env → AST → Prop} {τ : Env} (S : α → Env → AST → Prop) (μ : α → Nat) (x0 : α) (h0 : S x0 τ σ)
    (h : ∀ x τ σ, S x τ σ → awp P c (thenQ (@LamE ⟨fun τ' σ' => ∃ m, m < μ x ∧ ∃ x', S x' τ' σ' ∧ μ x' = m⟩) Q) τ σ) : awp P (.loop c) Q τ σ :=
  ⟨fun n τ σ => ∃ x, S x τ σ ∧ μ x = n, μ x0, ⟨x0, h0, rfl⟩, by rintro n τ σ ⟨x, hx, rfl⟩; exact h x τ σ hx⟩

theorem guardV_split {b want : Bool} {T E : Prop} (ht : b = want → T) (he : b = !want → E) : guardV (.bool b) want (@Later ⟨T⟩) (@Later ⟨E⟩) := ⟨ht, he⟩
theorem boolW_split {b : Bool} {T E : Prop} (ht : b = true → T) (he : b = false → E) : boolW (.bool b) (@Later ⟨T⟩) (@Later ⟨E⟩) := ⟨ht, he⟩
theorem nth_intro {α : Type} {l : List α} {n : Int} {F : α → Prop} (h0 : 0 ≤ n) (h1 : n < l.length) (h : ∀ y, l[n.toNat]? = some y → F y) : nthW l n (@LamA _ ⟨F⟩) := ⟨h0, h1, h⟩

/-- A FUNCTION's CONTRACT OUT OF ITS TEXT: the forms that the walk uses. -/
theorem tcalls_walk {f : FuncId} (fn : Func) (c : Code) (rs : List ResultVar) {args : List AV} (hf : P.funcs[f]? = some fn) (hb : fn.body = some c) (hnm : (fn.name == "runtime.NumGoroutine") = false) (hd : dstOk fn.ntmps c = true) (hm : P.follows .mixedOrders = true)
    (hn : args.length ≤ fn.ntmps) (hr : fn.results.toList = rs) (h : (∀ v ∈ args, lenOk v) → awp P c (endQ P rs K) (env0 args) σ) : TCalls P f args σ K := by
  refine tcalls_of ⟨fn, hf, hnm, by rw [hb]; rfl⟩ hf hb hd hm hn fun hl => ?_
  have := h hl
  rw [← hr] at this
  have he : endQ P fn.results.toList K = bodyQ P fn K := by funext e τ σ; cases e <;> rfl
  rwa [he] at this

/-- The name of Go.Aff's rules in this set. -/
theorem and_imp_self {p q : Prop} (h : p) : (p ∧ q) = q := by simp [h]

attribute [go_sem high] and_later arr_later
attribute [go_sem] lam_app lamE_app lamA_app at_app atS_app
attribute [go_sem ↓] bnd_none bnd_some awp_seq awp_region' awp_cond' awp_block' awp_skip' awp_ret' awp_exit' seq_cons seq_nil step_plain step_guard gdst_zero gdst_succ guardW_some guardV_skip guardV_tt guardV_tf guardV_ft guardV_ff
attribute [go_sem ↓] op_move op_assign op_pick op_alloc op_box op_build op_buildSlice op_load op_store op_nilCheck op_binOp op_unOp op_convert op_makeInterface op_makeFunc op_slice op_fieldAddr op_field op_indexAddr op_index op_extract op_append op_len op_max op_min op_call
attribute [go_sem ↓] awp_scope' awp_label' noGotoQ_normal noGotoQ_ret noGotoQ_exit thenQ_normal thenQ_ret thenQ_exit blockQ_normal blockQ_ret blockQ_exit endQ_normal endQ_ret res_one' one_tmp
attribute [go_sem] ev_tmp ev_const ev_func putO_some putO_none put_at env_zero env_succ env_nil absV_int absV_bool absV_str absV_nilptr absV_nilslice absV_nilmap absV_nilfn absV_niliface boolW_t boolW_f Bool.not_true Bool.not_false
attribute [go_sem] bin_int bin_str int_add int_sub int_mul int_quo int_rem int_eql int_neq int_lss int_leq int_gtr int_geq str_add str_eql str_neq str_lss str_leq str_gtr str_geq un_not un_neg callV_fn callV_yield bin_bool_eq bin_bool_ne len_str len_slice len_arr indexAddr_slice isIntT kindT isSliceT elemT isStructT slice_str index_str conv_int conv_str load_eptr nth_map isAgg_str isAgg_int isAgg_bool isAgg_slice isAgg_ptr isAgg_fn isAgg_mp isAgg_agg isAgg_dig size_str size_int size_bool size_slice size_ptr size_fn size_mp size_agg size_dig sizes_nil sizes_cons bool_tt bool_tf bool_ft bool_ff true_arr false_arr toNat_cast Option.map_some Option.map_none List.drop_zero true_and and_true Nat.zero_le reduceIte Nat.reduceEqDiff Int.reduceToNat Int.reduceLE Nat.reduceLT Nat.reduceAdd
end Go.Aff

