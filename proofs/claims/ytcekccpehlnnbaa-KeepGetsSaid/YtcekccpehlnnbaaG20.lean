import Derived.Test.YtcekccpehlnnbaaG19

/- Layer 25, walked: the reference's states that are read. -/
namespace Go.Aff.L25
open Go.Proofs Go.Aff Go.Aff.L01 Classical
set_option linter.unusedVariables false
set_option linter.unusedSimpArgs false
attribute [local go_sem] Try.underlying3 Try.underlying4 Try.underlying5 Try.underlying9 Try.underlying22 Try.underlying23 Try.underlying25 Try.underlying26 Try.underlying29 Try.underlying44 Try.underlying45 Try.underlying47 Try.underlying53 Try.underlying67 fits3 fits9 fits53 p53_0 p53_1 fits22 fits23 fits29 fits25' p29_0 p29_1 p29_2 p29_3 p29_4 p25_0 p25_1 p25_2 p25_3 p25_4
attribute [local go_sem] push_app app_app length_app cellAt_app cellAt_app0 set_app set_app0 objs_app objs_app0 List.cons_append List.nil_append List.length_cons List.length_nil List.getElem?_cons_zero List.getElem?_cons_succ List.set_cons_zero List.set_cons_succ
attribute [-go_sem] cellAt_new
attribute [local go_sem] fits26 keeps_nil' slS_isAgg slS_size slS_known slS_shape
theorem fits67 {v : AV} : fits Try.prog 67 v = (v.isAgg = true ∧ v.size = 2) := fits_agg (by kernel_rfl) (by kernel_rfl)
theorem p67_0 {ps : List AV} {x : AV} : partIs Try.prog 67 ps 0 x = (0 = AV.sizes (ps.take 0) ∧ fits Try.prog 3 x) := partIs_of (by kernel_rfl)
theorem p67_1 {ps : List AV} {x : AV} : partIs Try.prog 67 ps 1 x = (1 = AV.sizes (ps.take 1) ∧ fits Try.prog 26 x) := partIs_of (by kernel_rfl)
theorem zero67 : zeroA Try.prog 12 67 = .agg [.int .i64 0, .int .i64 0] := by kernel_rfl
theorem zeroOf67 : ZeroOf Try.prog 67 (.agg [.int .i64 0, .int .i64 0]) := ⟨_, _, rfl, rfl, rfl, rfl, rfl⟩
theorem built67 : Built Try.prog 67 := by unfold Built; rw [Try.underlying67]; decide +kernel
attribute [local go_sem] fits67 p67_0 p67_1

theorem Str_c {s : List UInt8} {a e : Int} (h0 : 0 ≤ a ∧ a ≤ s.length) (hs : s.length ≤ 9223372036854775807) {σ : AST} {K : AV → AST → Prop}
    (hK : K (.tuple [.str (rd [] (textR s) a e).1, .agg [.int .i64 (rd [] (textR s) a e).2.1, .int .i64 (rd [] (textR s) a e).2.2]]) σ) : TCalls Try.prog 33 [.str s, .agg [.int .i64 a, .int .i64 e]] σ K := by
  refine TCalls.drop ?_
  refine tcalls_walk Try.f33 _ [.tmp 4, .cell 5 67] Try.func33 rfl rfl rfl mixed (Nat.le_of_ble_eq_true rfl) rfl fun hlen => ?_
  simp -dsimp only [↓reduceIte, go_sem]
  rw [zero67]
  refine ⟨zeroOf67, later_intro ?_⟩
  simp -dsimp only [↓reduceIte, go_sem]
  have kz : ∀ (A B B' : AObj), keeps [σ.objs.length] (σ.app [A, B]) (σ.app [A, B']) := fun A B B' k hk => by
    obtain rfl := List.mem_singleton.1 hk
    rw [objs_app0, objs_app0]; rfl
  refine boolW_split (fun he => ?_) (fun he => ?_)
  · have he : e ≠ 0 := by simpa using he
    rw [rd_bad he] at hK
    simp -dsimp only [↓reduceIte, go_sem]
    refine awp_drawF [(1, 2), (0, 0), (2, 1)] (by kernel_rfl) ?_
    simp -dsimp only [↓reduceIte, go_sem]
    refine later_intro ⟨kz _ _ _, ?_⟩
    simp -dsimp only [↓reduceIte, go_sem]
    refine ⟨Ext.app _ _, rfl, ?_⟩
    simp only [AV.strip, AV.strips]
    exact hK
  · have he : e = 0 := by simpa using he
    subst he
    rw [rd_ok] at hK
    simp -dsimp only [↓reduceIte, go_sem]
    refine ReadText_c (by omega) (by omega) ?_
    unfold tupT
    simp -dsimp only [↓reduceIte, go_sem]
    rw [zero67]
    refine ⟨zeroOf67, rfl, built67, ?_⟩
    refine fill_cons rfl (by rw [p67_0, fits3]; exact ⟨rfl, rfl, by simp [AV.size]⟩) rfl rfl (fill_cons rfl (by rw [p67_1, fits26]; exact ⟨by simp [AV.sizes, AV.size], rfl, by simp [AV.size]⟩) rfl rfl ?_)
    rw [fill_nil]
    simp -dsimp only [↓reduceIte, go_sem]
    refine ⟨Ext.app _ _, rfl, ?_⟩
    simp only [AV.strip, AV.strips]
    exact hK

theorem zero25 : zeroA Try.prog 12 25 = .agg [.str [], .str [], .str [], .slice .full [], .slice .full []] := by kernel_rfl
theorem zeroOf25 : ZeroOf Try.prog 25 (.agg [.str [], .str [], .str [], .slice .full [], .slice .full []]) := ⟨_, _, rfl, rfl, rfl, rfl, rfl⟩
theorem built25 : Built Try.prog 25 := by unfold Built; rw [Try.underlying25]; decide +kernel

theorem strip_ex {α : Type} {f : α → AV} (h : ∀ x, (f x).strip = f x) {l : List α} {tk : Tk} : ∃ tk', (AV.slice tk (l.map f)).strip = .slice tk' (l.map f) := by
  by_cases hf : tk = .full ∧ l = []
  · obtain ⟨rfl, rfl⟩ := hf; exact ⟨.full, by simp [AV.strip]⟩
  · refine ⟨.none, ?_⟩
    have e : (AV.slice tk (l.map f)).strip = .slice .none (AV.strips (l.map f)) := by
      cases tk <;> cases l <;> simp_all [AV.strip]
    rw [e, strips_leaf h]
theorem stS_ex (st : St) : ∃ t1 t2, stS st = stateV t1 t2 st := by
  obtain ⟨t1, h1⟩ := slS_tk (f := pieceV) (l := st.puts)
  obtain ⟨t2, h2⟩ := slS_tk (f := AV.int .i64) (l := st.prunes)
  exact ⟨t1, t2, by rw [stS, h1, h2]; rfl⟩
theorem stateV_strip (t1 t2 : Tk) (st : St) : ∃ t1' t2', (stateV t1 t2 st).strip = stateV t1' t2' st := by
  obtain ⟨t1', h1⟩ := strip_ex (tk := t1) pieceV_strip (l := st.puts)
  obtain ⟨t2', h2⟩ := strip_ex (tk := t2) strip_int (l := st.prunes)
  refine ⟨t1', t2', ?_⟩
  have e : (stateV t1 t2 st).strip = .agg [.str st.w, .str st.p, .str st.b, (AV.slice t1 (st.puts.map pieceV)).strip, (AV.slice t2 (st.prunes.map (AV.int .i64))).strip] := by
    simp [stateV, AV.strip, AV.strips]
  rw [e, h1, h2]; rfl
theorem stateV_noRef (t1 t2 : Tk) (st : St) : (stateV t1 t2 st).noRef = true := by
  simp only [stateV, AV.noRef, AV.noRefs, noRefs_leaf pieceV_noRef, noRefs_leaf (f := AV.int .i64) (fun _ => rfl), Bool.and_self]

theorem fill29 {a b c : List UInt8} {t1 t2 : Tk} {l1 l2 : List AV} {KV : AV → Prop} (hK : KV (.agg [.str a, .str b, .str c, .slice t1 l1, .slice t2 l2])) :
    fillW Try.prog 29 [(0, .str a), (1, .str b), (2, .str c), (3, .slice t1 l1), (4, .slice t2 l2)] (.agg [.str [], .str [], .str [], .slice .full [], .slice .full []]) KV := by
  refine fill_cons rfl (by rw [p29_0, fits9]; exact ⟨rfl, rfl, by simp [AV.size]⟩) rfl rfl ?_
  refine fill_cons rfl (by rw [p29_1, fits9]; exact ⟨by simp [AV.sizes, AV.size], rfl, by simp [AV.size]⟩) rfl rfl ?_
  refine fill_cons rfl (by rw [p29_2, fits9]; exact ⟨by simp [AV.sizes, AV.size], rfl, by simp [AV.size]⟩) rfl rfl ?_
  refine fill_cons rfl (by rw [p29_3, fits22]; exact ⟨by simp [AV.sizes, AV.size], rfl, by simp [AV.size]⟩) rfl rfl ?_
  refine fill_cons rfl (by rw [p29_4, fits23]; exact ⟨by simp [AV.sizes, AV.size], rfl, by simp [AV.size]⟩) rfl rfl ?_
  rw [fill_nil]; exact hK
theorem fill25 {a b c : List UInt8} {t1 t2 : Tk} {l1 l2 : List AV} {KV : AV → Prop} (hK : KV (.agg [.str a, .str b, .str c, .slice t1 l1, .slice t2 l2])) :
    fillW Try.prog 25 [(0, .str a), (1, .str b), (2, .str c), (3, .slice t1 l1), (4, .slice t2 l2)] (.agg [.str [], .str [], .str [], .slice .full [], .slice .full []]) KV := by
  refine fill_cons rfl (by rw [p25_0, fits9]; exact ⟨rfl, rfl, by simp [AV.size]⟩) rfl rfl ?_
  refine fill_cons rfl (by rw [p25_1, fits9]; exact ⟨by simp [AV.sizes, AV.size], rfl, by simp [AV.size]⟩) rfl rfl ?_
  refine fill_cons rfl (by rw [p25_2, fits9]; exact ⟨by simp [AV.sizes, AV.size], rfl, by simp [AV.size]⟩) rfl rfl ?_
  refine fill_cons rfl (by rw [p25_3, fits22]; exact ⟨by simp [AV.sizes, AV.size], rfl, by simp [AV.size]⟩) rfl rfl ?_
  refine fill_cons rfl (by rw [p25_4, fits23]; exact ⟨by simp [AV.sizes, AV.size], rfl, by simp [AV.size]⟩) rfl rfl ?_
  rw [fill_nil]; exact hK
theorem fill25' {a b c : List UInt8} {t2 : Tk} {l2 : List AV} {KV : AV → Prop} (hK : KV (.agg [.str a, .str b, .str c, .slice .full [], .slice t2 l2])) :
    fillW Try.prog 25 [(0, .str a), (1, .str b), (2, .str c), (4, .slice t2 l2)] (.agg [.str [], .str [], .str [], .slice .full [], .slice .full []]) KV := by
  refine fill_cons rfl (by rw [p25_0, fits9]; exact ⟨rfl, rfl, by simp [AV.size]⟩) rfl rfl ?_
  refine fill_cons rfl (by rw [p25_1, fits9]; exact ⟨by simp [AV.sizes, AV.size], rfl, by simp [AV.size]⟩) rfl rfl ?_
  refine fill_cons rfl (by rw [p25_2, fits9]; exact ⟨by simp [AV.sizes, AV.size], rfl, by simp [AV.size]⟩) rfl rfl ?_
  refine fill_cons rfl (by rw [p25_4, fits23]; exact ⟨by simp [AV.sizes, AV.size], rfl, by simp [AV.size]⟩) rfl rfl ?_
  rw [fill_nil]; exact hK

theorem to_c {t1 t2 : Tk} {st : St} {σ : AST} {K : AV → AST → Prop} (hK : ∀ t1 t2, K (stateV t1 t2 st) σ) : TCalls Try.prog 9 [stateV t1 t2 st] σ K := by
  refine TCalls.drop ?_
  obtain ⟨t1', t2', hs⟩ := stateV_strip t1 t2 st
  have hn := stateV_noRef t1 t2 st
  unfold stateV at hs hn ⊢
  refine tcalls_walk Try.f9 _ [.cell 2 29] Try.func9 rfl rfl rfl mixed (Nat.le_of_ble_eq_true rfl) rfl fun hlen => ?_
  simp -dsimp only [↓reduceIte, go_sem]
  rw [zero29]
  refine ⟨zeroOf29, later_intro ?_⟩
  simp -dsimp only [↓reduceIte, go_sem]
  refine ⟨zeroOf29, rfl, built29, ?_⟩
  rw [zero29]
  refine fill29 ?_
  simp -dsimp only [↓reduceIte, go_sem]
  refine ⟨Ext.app _ _, hn, ?_⟩
  rw [hs]; exact hK _ _
theorem of_c {t1 t2 : Tk} {st : St} {σ : AST} {K : AV → AST → Prop} (hK : ∀ t1 t2, K (stateV t1 t2 st) σ) : TCalls Try.prog 17 [stateV t1 t2 st] σ K := by
  refine TCalls.drop ?_
  obtain ⟨t1', t2', hs⟩ := stateV_strip t1 t2 st
  have hn := stateV_noRef t1 t2 st
  unfold stateV at hs hn ⊢
  refine tcalls_walk Try.f17 _ [.cell 2 25] Try.func17 rfl rfl rfl mixed (Nat.le_of_ble_eq_true rfl) rfl fun hlen => ?_
  simp -dsimp only [↓reduceIte, go_sem]
  rw [zero25]
  refine ⟨zeroOf25, later_intro ?_⟩
  simp -dsimp only [↓reduceIte, go_sem]
  refine ⟨zeroOf25, rfl, built25, ?_⟩
  rw [zero25]
  refine fill25 ?_
  simp -dsimp only [↓reduceIte, go_sem]
  refine ⟨Ext.app _ _, hn, ?_⟩
  rw [hs]; exact hK _ _
theorem light_c {t1 t2 : Tk} {st : St} {σ : AST} {K : AV → AST → Prop} (hK : K (.bool (decide (st.puts.length < 300 ∧ st.prunes.length < 100))) σ) : TCalls Try.prog 10 [stateV t1 t2 st] σ K := by
  refine TCalls.drop ?_
  unfold stateV
  refine tcalls_walk Try.f10 _ [.tmp 2] Try.func10 rfl rfl rfl mixed (Nat.le_of_ble_eq_true rfl) rfl fun hlen => ?_
  simp -dsimp only [↓reduceIte, go_sem]
  refine arr_intro fun _ => ?_
  simp only [List.length_map]
  simp -dsimp only [↓reduceIte, go_sem]
  refine guardV_split (fun h1 => ?_) (fun h1 => ?_) <;> (try rw [h1])
  · have h1 : st.puts.length < 300 := by simp at h1; omega
    simp -dsimp only [↓reduceIte, go_sem]
    refine arr_intro fun _ => ?_
    simp only [List.length_map]
    simp -dsimp only [↓reduceIte, go_sem]
    refine ⟨Ext.app _ _, rfl, ?_⟩
    rw [decide_eq_decide.2 (show (st.puts.length < 300 ∧ st.prunes.length < 100) ↔ ((st.prunes.length : Int) < 100) by omega)] at hK
    exact hK
  · have h1 : ¬ st.puts.length < 300 := by simp at h1; omega
    simp -dsimp only [↓reduceIte, go_sem]
    refine ⟨Ext.app _ _, rfl, ?_⟩
    rw [decide_eq_false (fun h => h1 h.1)] at hK
    exact hK

theorem Same_c {a b : St} {t1 t2 t3 t4 : Tk} {σ : AST} {K : AV → AST → Prop} (hK : K (.bool (decide (a = b))) σ) : TCalls Try.prog 16 [stateV t1 t2 a, stateV t3 t4 b] σ K := by
  refine TCalls.drop ?_
  unfold stateV
  refine tcalls_walk Try.f16 _ [.tmp 4] Try.func16 rfl rfl rfl mixed (Nat.le_of_ble_eq_true rfl) rfl fun hlen => ?_
  have no : a ≠ b → ∀ s, Ext σ s → Ext σ s ∧ (AV.bool false).noRef = true ∧ K (AV.bool false).strip σ := fun h s hx => by
    rw [decide_eq_false h] at hK; exact ⟨hx, rfl, hK⟩
  rw [decide_eq_decide.2 st_eq] at hK
  simp -dsimp only [↓reduceIte, go_sem]
  have lf : ∀ n : Nat, n ≤ n := fun n => Nat.le_refl n
  refine guardV_split (fun h1 => ?_) (fun h1 => ?_) <;> (try rw [h1])
  · have h1 : a.w = b.w := by simpa using h1
    simp -dsimp only [↓reduceIte, go_sem]
    refine guardV_split (fun h2 => ?_) (fun h2 => ?_) <;> (try rw [h2])
    · have h2 : a.p = b.p := by simpa using h2
      simp -dsimp only [↓reduceIte, go_sem]
      refine guardV_split (fun h3 => ?_) (fun h3 => ?_) <;> (try rw [h3])
      · have h3 : a.b = b.b := by simpa using h3
        simp -dsimp only [↓reduceIte, go_sem]
        refine arr_intro fun _ => ?_
        simp only [List.length_map]
        simp -dsimp only [↓reduceIte, go_sem]
        refine arr_intro fun _ => ?_
        simp only [List.length_map]
        simp -dsimp only [↓reduceIte, go_sem]
        refine guardV_split (fun h4 => ?_) (fun h4 => ?_) <;> (try rw [h4])
        · have h4 : a.puts.length = b.puts.length := by simp at h4; omega
          simp -dsimp only [↓reduceIte, go_sem]
          refine ints_c ?_
          simp -dsimp only [↓reduceIte, go_sem]
          refine boolW_split (fun h5 => ?_) (fun h5 => ?_)
          · have h5 : a.prunes ≠ b.prunes := by simpa using h5
            simp -dsimp only [↓reduceIte, go_sem]
            exact no (fun h => h5 (by rw [h])) _ (Ext.app _ _)
          · have h5 : a.prunes = b.prunes := by simpa using h5
            simp -dsimp only [↓reduceIte, go_sem]
            have hal : a.puts.length ≤ 9223372036854775807 := by
              have := ‹(List.map pieceV a.puts).length ≤ maxL›
              simpa [maxL] using this
            generalize hA : (AV.agg [.str a.w, .str a.p, .str a.b, .slice t1 (a.puts.map pieceV), .slice t2 (a.prunes.map (AV.int .i64))]) = A
            generalize hB : (AV.agg [.str b.w, .str b.p, .str b.b, .slice t3 (b.puts.map pieceV), .slice t4 (b.prunes.map (AV.int .i64))]) = B
            refine awp_rounds (fun (i : Nat) τ s => i ≤ a.puts.length ∧ s = σ.app [.cells A, .cells B] ∧ τ 2 = .ptr (some (σ.objs.length, [])) ∧ τ 3 = .ptr (some (σ.objs.length + 1, [])) ∧ τ 5 = .int .i64 i ∧ ∀ j < i, a.puts[j]? = b.puts[j]?) (fun i => a.puts.length - i) 0 ?_ ?_
            · refine ⟨by omega, rfl, ?_, ?_, ?_, fun j h => by omega⟩ <;> (try simp only [go_sem]) <;> rfl
            · rintro i τ s ⟨hi, rfl, u2, u3, u5, hall⟩
              subst hA hB
              simp -dsimp only [↓reduceIte, go_sem, u2, u3, u5]
              refine arr_intro fun _ => ?_
              simp only [List.length_map]
              simp -dsimp only [↓reduceIte, go_sem, u2, u3, u5]
              refine boolW_split (fun hb => ?_) (fun hb => ?_)
              · have hb : i < a.puts.length := by simp at hb; omega
                obtain ⟨x, hx⟩ := get_lt hb
                obtain ⟨y, hy⟩ := get_lt (l := b.puts) (i := i) (by omega)
                simp -dsimp only [↓reduceIte, go_sem, u2, u3, u5]
                refine awp_drawF [(0, 2), (1, 2), (2, 2), (3, 2), (4, 2), (5, 2), (6, 2), (7, 2), (8, 2), (9, 2), (10, 2)] (by kernel_rfl) ?_
                simp -dsimp only [↓reduceIte, go_sem, u2, u3, u5]
                refine nth_get hx ?_
                simp -dsimp only [↓reduceIte, go_sem, u2, u3, u5, piece_isAgg, piece_size, piece_known]
                refine nth_get hy ?_
                simp -dsimp only [↓reduceIte, go_sem, u2, u3, u5, piece_isAgg, piece_size, piece_known]
                refine ne_piece ?_
                by_cases h7 : x = y
                · subst h7
                  rw [decide_eq_true rfl]
                  simp -dsimp only [↓reduceIte, go_sem, u2, u3, u5]
                  rw [wrap_i64 (by omega) (by omega)]
                  refine later_intro ⟨i + 1, by omega, by omega, rfl, ?_, ?_, ?_, ?_⟩ <;> (try simp only [go_sem, u2, u3, u5]) <;> try rfl
                  intro j hj
                  by_cases hji : j < i
                  · exact hall j hji
                  · obtain rfl : j = i := by omega
                    rw [hx, hy]
                · rw [decide_eq_false h7]
                  simp -dsimp only [↓reduceIte, go_sem, u2, u3, u5]
                  exact no (fun h => h7 (by rw [h] at hx; rw [hx] at hy; exact Option.some.inj hy)) _ (Ext.app _ _)
              · have hb : i = a.puts.length := by simp at hb; omega
                simp -dsimp only [↓reduceIte, go_sem, u2, u3, u5]
                refine ⟨Ext.app _ _, rfl, ?_⟩
                have h6 : a.puts = b.puts := by
                  apply List.ext_getElem?; intro j
                  by_cases hj : j < i
                  · exact hall j hj
                  · rw [List.getElem?_eq_none (by omega), List.getElem?_eq_none (by omega)]
                rw [decide_eq_true ⟨h1, h2, h3, h6, h5⟩] at hK; exact hK
        · have h4 : a.puts.length ≠ b.puts.length := by simp at h4; omega
          simp -dsimp only [↓reduceIte, go_sem]
          exact no (fun h => h4 (by rw [h])) _ (Ext.app _ _)
      · have h3 : a.b ≠ b.b := by simpa using h3
        simp -dsimp only [↓reduceIte, go_sem]
        exact no (fun h => h3 (by rw [h])) _ (Ext.app _ _)
    · have h2 : a.p ≠ b.p := by simpa using h2
      simp -dsimp only [↓reduceIte, go_sem]
      exact no (fun h => h2 (by rw [h])) _ (Ext.app _ _)
  · have h1 : a.w ≠ b.w := by simpa using h1
    simp -dsimp only [↓reduceIte, go_sem]
    exact no (fun h => h1 (by rw [h])) _ (Ext.app _ _)

theorem getS_bad {s : List UInt8} {x1 x2 x3 : List UInt8 × Int × Int} {x4 : List Int × Int × Int} {x5 : List (List UInt8) × Int × Int}
    (h1 : x1 = rd [] (textR s) 0 0) (h2 : x2 = rd [] (textR s) x1.2.1 x1.2.2) (h3 : x3 = rd [] (textR s) x2.2.1 x2.2.2) (h4 : x4 = rd [] (readR (numP s) s) x3.2.1 x3.2.2) (h5 : x5 = rd [] (readR (textP s) s) x4.2.1 x4.2.2) (hb : x5.2.2 ≠ 0) :
    getS s = (.zero, x5.2.2) := by
  have run := getS_run h1 h2 h3 h4 h5 (rfl : rd [] (readR (numP s) s) x5.2.1 x5.2.2 = _)
  rw [run, rd_bad hb, getR, if_pos hb]
theorem getS_bad4 {s : List UInt8} {x1 x2 x3 : List UInt8 × Int × Int} {x4 : List Int × Int × Int}
    (h1 : x1 = rd [] (textR s) 0 0) (h2 : x2 = rd [] (textR s) x1.2.1 x1.2.2) (h3 : x3 = rd [] (textR s) x2.2.1 x2.2.2) (h4 : x4 = rd [] (readR (numP s) s) x3.2.1 x3.2.2) (hb : x4.2.2 ≠ 0) :
    getS s = (.zero, x4.2.2) := by
  have e5 : rd ([] : List (List UInt8)) (readR (textP s) s) x4.2.1 x4.2.2 = ([], x4.2.1, x4.2.2) := rd_bad hb
  have := getS_bad h1 h2 h3 h4 e5.symm hb
  exact this
theorem getS_bad3 {s : List UInt8} {x1 x2 x3 : List UInt8 × Int × Int}
    (h1 : x1 = rd [] (textR s) 0 0) (h2 : x2 = rd [] (textR s) x1.2.1 x1.2.2) (h3 : x3 = rd [] (textR s) x2.2.1 x2.2.2) (hb : x3.2.2 ≠ 0) :
    getS s = (.zero, x3.2.2) := by
  have e4 : rd ([] : List Int) (readR (numP s) s) x3.2.1 x3.2.2 = ([], x3.2.1, x3.2.2) := rd_bad hb
  have := getS_bad4 h1 h2 h3 e4.symm hb
  exact this

theorem Get_c {s : List UInt8} {σ : AST} {K : AV → AST → Prop} (hK : K (.tuple [stS (getS s).1, .int .i64 (getS s).2]) σ) : TCalls Try.prog 15 [.str s] σ K := by
  refine TCalls.drop ?_
  refine tcalls_walk Try.f15 _ [.cell 2 25, .tmp 3] Try.func15 rfl rfl rfl mixed (Nat.le_of_ble_eq_true rfl) rfl fun hlen => ?_
  have hs : s.length ≤ 9223372036854775807 := hlen (.str s) (by simp)
  have zero : ∀ e s', Ext σ s' → getS s = (.zero, e) → Ext σ s' ∧ (AV.tuple [.agg [.str [], .str [], .str [], .slice .full [], .slice .full []], .int .i64 e]).noRef = true ∧ K (AV.tuple [.agg [.str [], .str [], .str [], .slice .full [], .slice .full []], .int .i64 e]).strip σ := fun e s' hx h => by
    rw [h] at hK; exact ⟨hx, rfl, hK⟩
  simp -dsimp only [↓reduceIte, go_sem]
  rw [zero25]
  refine ⟨zeroOf25, later_intro ?_⟩
  simp -dsimp only [↓reduceIte, go_sem]
  rw [zero67]
  refine ⟨zeroOf67, rfl, built67, ?_⟩
  rw [fill_nil]
  simp -dsimp only [↓reduceIte, go_sem]
  refine Str_c (by omega) hs ?_
  obtain ⟨x1, hx1⟩ : ∃ x, x = rd [] (textR s) 0 0 := ⟨_, rfl⟩
  have r1 : 0 ≤ x1.2.1 ∧ x1.2.1 ≤ s.length := by rw [hx1]; exact rd_range (by omega) textR_range
  rw [← hx1]
  simp -dsimp only [↓reduceIte, go_sem]
  rw [zero67]
  refine ⟨zeroOf67, later_intro ?_⟩
  simp -dsimp only [↓reduceIte, go_sem]
  refine Str_c r1 hs ?_
  obtain ⟨x2, hx2⟩ : ∃ x, x = rd [] (textR s) x1.2.1 x1.2.2 := ⟨_, rfl⟩
  have r2 : 0 ≤ x2.2.1 ∧ x2.2.1 ≤ s.length := by rw [hx2]; exact rd_range r1 textR_range
  rw [← hx2]
  simp -dsimp only [↓reduceIte, go_sem]
  refine Str_c r2 hs ?_
  obtain ⟨x3, hx3⟩ : ∃ x, x = rd [] (textR s) x2.2.1 x2.2.2 := ⟨_, rfl⟩
  have r3 : 0 ≤ x3.2.1 ∧ x3.2.1 ≤ s.length := by rw [hx3]; exact rd_range r2 textR_range
  rw [← hx3]
  simp -dsimp only [↓reduceIte, go_sem]
  have kz : ∀ (A B A' : AObj), keeps [σ.objs.length + 1, σ.objs.length + 1] (σ.app [A, B]) (σ.app [A', B]) := fun A B A' k hk => by
    obtain rfl : k = σ.objs.length + 1 := by simpa using hk
    rw [objs_app, objs_app]; rfl
  refine boolW_split (fun h3 => ?_) (fun h3 => ?_)
  · have h3 : x3.2.2 ≠ 0 := by simpa using h3
    simp -dsimp only [↓reduceIte, go_sem]
    refine awp_drawF [(0, 2), (1, 0), (2, 0), (3, 1), (4, 2)] (by kernel_rfl) ?_
    simp -dsimp only [↓reduceIte, go_sem, zero25]
    refine ⟨zeroOf25, built25, ?_⟩
    rw [fill_nil]
    simp -dsimp only [↓reduceIte, go_sem]
    refine ⟨kz _ _ _, ?_⟩
    simp -dsimp only [↓reduceIte, go_sem]
    exact zero _ _ (Ext.app _ _) (getS_bad3 hx1 hx2 hx3 h3)
  · have h3 : x3.2.2 = 0 := by simpa using h3
    simp -dsimp only [↓reduceIte, go_sem]
    obtain ⟨x4, hx4⟩ : ∃ x, x = rd [] (readR (numP s) s) x3.2.1 x3.2.2 := ⟨_, rfl⟩
    have r4 : 0 ≤ x4.2.1 ∧ x4.2.1 ≤ s.length := by rw [hx4]; exact rd_range r3 ⟨(readR_range num_one).1, (readR_range num_one).2.1⟩
    have e4 : tupL (AV.int .i64) (readR (numP s) s x3.2.1) = .tuple [slS (AV.int .i64) x4.1, .int .i64 x4.2.1, .int .i64 x4.2.2] := by rw [hx4, h3, rd_ok]; rfl
    refine ReadNumbers_c (by omega) (by omega) ?_
    rw [e4]
    simp -dsimp only [↓reduceIte, go_sem]
    refine boolW_split (fun h4 => ?_) (fun h4 => ?_)
    · have h4 : x4.2.2 ≠ 0 := by simpa using h4
      simp -dsimp only [↓reduceIte, go_sem, zero25]
      refine ⟨zeroOf25, built25, ?_⟩
      rw [fill_nil]
      simp -dsimp only [↓reduceIte, go_sem]
      exact zero _ _ (Ext.app _ _) (getS_bad4 hx1 hx2 hx3 hx4 h4)
    · have h4 : x4.2.2 = 0 := by simpa using h4
      simp -dsimp only [↓reduceIte, go_sem]
      obtain ⟨x5, hx5⟩ : ∃ x, x = rd [] (readR (textP s) s) x4.2.1 x4.2.2 := ⟨_, rfl⟩
      have r5 : 0 ≤ x5.2.1 ∧ x5.2.1 ≤ s.length := by rw [hx5]; exact rd_range r4 ⟨(readR_range text_one).1, (readR_range text_one).2.1⟩
      have e5 : tupL AV.str (readR (textP s) s x4.2.1) = .tuple [slS AV.str x5.1, .int .i64 x5.2.1, .int .i64 x5.2.2] := by rw [hx5, h4, rd_ok]; rfl
      refine ReadTexts_c (by omega) (by omega) ?_
      rw [e5]
      simp -dsimp only [↓reduceIte, go_sem]
      refine boolW_split (fun h5 => ?_) (fun h5 => ?_)
      · have h5 : x5.2.2 ≠ 0 := by simpa using h5
        simp -dsimp only [↓reduceIte, go_sem, zero25]
        refine ⟨zeroOf25, built25, ?_⟩
        rw [fill_nil]
        simp -dsimp only [↓reduceIte, go_sem]
        exact zero _ _ (Ext.app _ _) (getS_bad hx1 hx2 hx3 hx4 hx5 h5)
      · have h5 : x5.2.2 = 0 := by simpa using h5
        simp -dsimp only [↓reduceIte, go_sem]
        obtain ⟨x6, hx6⟩ : ∃ x, x = rd [] (readR (numP s) s) x5.2.1 x5.2.2 := ⟨_, rfl⟩
        have r6 : 0 ≤ x6.2.1 ∧ x6.2.1 ≤ s.length := by rw [hx6]; exact rd_range r5 ⟨(readR_range num_one).1, (readR_range num_one).2.1⟩
        have e6 : tupL (AV.int .i64) (readR (numP s) s x5.2.1) = .tuple [slS (AV.int .i64) x6.1, .int .i64 x6.2.1, .int .i64 x6.2.2] := by rw [hx6, h5, rd_ok]; rfl
        have run := getS_run (s := s) hx1 hx2 hx3 hx4 hx5 hx6
        refine ReadNumbers_c (by omega) (by omega) ?_
        rw [e6]
        simp -dsimp only [↓reduceIte, go_sem]
        refine boolW_split (fun h6 => ?_) (fun h6 => ?_)
        · have h6 : x6.2.2 ≠ 0 := by simpa using h6
          rw [getR, if_pos h6] at run
          simp -dsimp only [↓reduceIte, go_sem, zero25]
          refine ⟨zeroOf25, built25, ?_⟩
          rw [fill_nil]
          simp -dsimp only [↓reduceIte, go_sem]
          exact zero _ _ (Ext.app _ _) run
        · have h6 : x6.2.2 = 0 := by simpa using h6
          rw [getR, if_neg (not_not_intro h6)] at run
          have l4 : x4.1.length ≤ 512 := by
            rw [h3, rd_ok] at hx4
            rw [hx4]; rw [hx4] at h4; exact (readR_range num_one).2.2.1 h4
          have l5 : x5.1.length ≤ 512 := by
            rw [h4, rd_ok] at hx5
            rw [hx5]; rw [hx5] at h5; exact (readR_range text_one).2.2.1 h5
          obtain ⟨ta, hta⟩ := slS_tk (f := AV.int .i64) (l := x4.1)
          obtain ⟨tb, htb⟩ := slS_tk (f := AV.str) (l := x5.1)
          rw [hta, htb]
          simp -dsimp only [↓reduceIte, go_sem]
          refine arr_intro fun _ => ?_
          simp only [List.length_map]
          simp -dsimp only [↓reduceIte, go_sem]
          refine arr_intro fun _ => ?_
          simp only [List.length_map]
          simp -dsimp only [↓reduceIte, go_sem]
          refine guardV_split (fun h7 => ?_) (fun h7 => ?_) <;> (try rw [h7])
          · have h7 : x4.1.length = x5.1.length := by simp at h7; omega
            simp -dsimp only [↓reduceIte, go_sem]
            refine arr_intro fun _ => ?_
            simp -dsimp only [↓reduceIte, go_sem]
            refine boolW_split (fun h8 => ?_) (fun h8 => ?_)
            · have h8 : x6.2.1 ≠ s.length := by simpa using h8
              rw [if_pos (.inr h8)] at run
              simp -dsimp only [↓reduceIte, go_sem, zero25]
              refine ⟨zeroOf25, built25, ?_⟩
              rw [fill_nil]
              simp -dsimp only [↓reduceIte, go_sem]
              exact zero _ _ (Ext.app _ _) run
            · have h8 : x6.2.1 = s.length := by simpa using h8
              rw [if_neg (by rintro (h | h); exact h h7; exact h h8)] at run
              have zlen : (x4.1.zip x5.1).length = x4.1.length := by rw [List.length_zip]; omega
              obtain ⟨tc, htc⟩ := slS_tk (f := AV.int .i64) (l := x6.1)
              rw [htc]
              simp -dsimp only [↓reduceIte, go_sem]
              rw [zero25]
              refine ⟨zeroOf25, rfl, built25, fill25' ?_⟩
              simp -dsimp only [↓reduceIte, go_sem]
              rw [zero25]
              refine ⟨zeroOf25, later_intro ?_⟩
              simp -dsimp only [↓reduceIte, go_sem]
              refine awp_rounds (fun (i : Nat) τ s' => ∃ (σ2 : AST) (tk : Tk), i ≤ x4.1.length ∧ Ext σ σ2 ∧ σ2.objs.length = σ.objs.length ∧
                s' = σ2.app [.cells (.agg [.str [], .str [], .str [], .slice .full [], .slice .full []]), .cells (.agg [.int .i64 x3.2.1, .int .i64 x3.2.2]), .cells (.agg [.str x1.1, .str x2.1, .str x3.1, .slice tk (((x4.1.zip x5.1).take i).map pieceV), .slice tc (x6.1.map (AV.int .i64))])] ∧
                tkNew σ tk ∧ canApp σ2 tk i 2 ∧ (i = 0 → tk = .full) ∧ (0 < i → ∃ k, tk = .own k) ∧ τ 2 = .ptr (some (σ2.objs.length, [])) ∧ τ 17 = .ptr (some (σ2.objs.length + 2, [])) ∧ τ 8 = .slice ta (x4.1.map (AV.int .i64)) ∧ τ 11 = .slice tb (x5.1.map AV.str) ∧ τ 18 = .int .i64 i) (fun i => x4.1.length - i) 0 ?_ ?_
              · refine ⟨σ, .full, by omega, Ext.refl _, rfl, ?_, .inl rfl, trivial, fun _ => rfl, fun h => by omega, ?_, ?_, ?_, ?_, ?_⟩ <;> (try simp only [go_sem]) <;> rfl
              · rintro i τ s' ⟨σ2, tk, hi, hx, hn2, rfl, htk, hcan, hz, hp, t2, t17, t8, t11, t18⟩
                simp -dsimp only [↓reduceIte, go_sem, t2, t17, t8, t11, t18]
                refine arr_intro fun _ => ?_
                simp only [List.length_map]
                simp -dsimp only [↓reduceIte, go_sem, t2, t17, t8, t11, t18]
                refine guardV_split (fun h9 => ?_) (fun h9 => ?_) <;> (try rw [h9])
                · have h9 : i < x4.1.length := by simp at h9; omega
                  simp -dsimp only [↓reduceIte, go_sem, t2, t17, t8, t11, t18]
                  refine arr_intro fun _ => ?_
                  simp only [List.length_map]
                  simp -dsimp only [↓reduceIte, go_sem, t2, t17, t8, t11, t18]
                  obtain ⟨n, hn⟩ := get_lt h9
                  obtain ⟨t, ht⟩ := get_lt (l := x5.1) (i := i) (by omega)
                  have hz1 : (x4.1.zip x5.1)[i]? = some (n, t) := by rw [List.getElem?_zip_eq_some]; exact ⟨hn, ht⟩
                  have htake : (x4.1.zip x5.1).take (i + 1) = (x4.1.zip x5.1).take i ++ [(n, t)] := by rw [List.take_add_one, hz1]; rfl
                  have hlt : (((x4.1.zip x5.1).take i).map pieceV).length = i := by simp; omega
                  rw [show decide ((i : Int) < x5.1.length) = true by simp; omega]
                  simp -dsimp only [↓reduceIte, go_sem, t2, t17, t8, t11, t18]
                  refine awp_drawF [(0, 2), (1, 2), (2, 2), (3, 2), (4, 2), (5, 2), (6, 2), (7, 2), (8, 2), (9, 2), (10, 2), (11, 2), (12, 1), (13, 2), (14, 1)] (by kernel_rfl) ?_
                  simp -dsimp only [↓reduceIte, go_sem, t2, t17, t8, t11, t18]
                  refine nth_get hn ?_
                  simp -dsimp only [↓reduceIte, go_sem, t2, t17, t8, t11, t18]
                  refine nth_get ht ?_
                  simp -dsimp only [↓reduceIte, go_sem, t2, t17, t8, t11, t18, zero53]
                  refine ⟨zeroOf53, built53, ?_⟩
                  refine fill_cons rfl (by rw [p53_0, fits3]; exact ⟨rfl, rfl, by simp [AV.size]⟩) rfl rfl (fill_cons rfl (by rw [p53_1, fits9]; exact ⟨by simp [AV.sizes, AV.size], rfl, by simp [AV.size]⟩) rfl rfl ?_)
                  rw [fill_nil]
                  simp -dsimp only [↓reduceIte, go_sem, t2, t17, t8, t11, t18]
                  refine build_slice E22 rfl (by decide) ?_ ?_
                  · intro v hv
                    simp at hv; subst hv
                    exact ⟨by simp only [go_sem], rfl⟩
                  simp -dsimp only [↓reduceIte, go_sem, t2, t17, t8, t11, t18]
                  refine append_slice E22 (by rfl) (by rw [hlt, canApp_app]; exact hcan) (by intro v hv; simp at hv; subst hv; simp only [go_sem]) size_piece (by rw [hlt]; simp; omega) (by rw [hlt]; simp [maxL]; omega) ?_
                  rw [hlt, growT_app, growS_app]
                  obtain ⟨σ3, hσ3⟩ : ∃ σ3, σ3 = growS σ2 tk (i + [AV.agg [AV.int .i64 n, AV.str t]].length) 2 := ⟨_, rfl⟩
                  have hS2 : σ3.objs.length = σ2.objs.length := by rw [hσ3]; exact length_growS
                  rw [← hσ3]
                  refine later_intro (later_intro ?_)
                  have t2' := t2
                  have t17' := t17
                  rw [← hS2] at t2' t17'
                  simp -dsimp only [↓reduceIte, go_sem, t2', t17', t8, t11, t18]
                  rw [wrap_i64 (by omega) (by omega)]
                  have e3 : ((x4.1.zip x5.1).take (i + 1)).map pieceV = ((x4.1.zip x5.1).take i).map pieceV ++ [AV.agg [.int .i64 n, .str t]] := by rw [htake, List.map_append]; rfl
                  refine ⟨i + 1, by omega, σ3, growT σ2 tk, by omega, ?_, by omega, by rw [e3], htk.grow hx, ?_, fun h => by omega, fun _ => ?_, rfl, rfl, rfl⟩
                  · rw [hσ3]; exact hx.grow htk
                  · rw [hσ3]; exact canApp_grow hcan
                  · rcases htk with h | ⟨k, h, _⟩
                    · subst h; exact ⟨_, rfl⟩
                    · subst h; exact ⟨_, rfl⟩
                · have h9 : i = x4.1.length := by simp at h9; omega
                  have hall : (x4.1.zip x5.1).take i = x4.1.zip x5.1 := List.take_of_length_le (by omega)
                  rw [hall]
                  simp -dsimp only [↓reduceIte, go_sem, t2, t17, t8, t11, t18]
                  have hfold : (AV.agg [.str x1.1, .str x2.1, .str x3.1, .slice tk ((x4.1.zip x5.1).map pieceV), .slice tc (x6.1.map (AV.int .i64))]) = stateV tk tc ⟨x1.1, x2.1, x3.1, x4.1.zip x5.1, x6.1⟩ := rfl
                  rw [hfold]
                  refine Right_c (by simp; omega) ?_
                  simp -dsimp only [↓reduceIte, go_sem, t2, t17, t8, t11, t18]
                  by_cases hR : (⟨x1.1, x2.1, x3.1, x4.1.zip x5.1, x6.1⟩ : St).Right
                  · rw [if_pos hR] at run
                    rw [decide_eq_true hR]
                    unfold stateV
                    simp -dsimp only [↓reduceIte, go_sem, t2, t17, t8, t11, t18]
                    refine later_intro ?_
                    rw [run] at hK
                    have hF : tkF (x4.1.zip x5.1) tk := by
                      by_cases h0 : i = 0
                      · exact .inl ⟨List.length_eq_zero_iff.1 (by omega), hz h0⟩
                      · refine .inr ⟨fun h => ?_, hp (by omega)⟩
                        rw [h] at zlen; simp at zlen; omega
                    refine ⟨hx.trans (Ext.app _ _), ?_, ?_⟩
                    · simp only [AV.noRef, AV.noRefs, Bool.and_true, Bool.true_and, noRefs_leaf pieceV_noRef, noRefs_leaf (f := AV.int .i64) (fun _ => rfl)]
                    · rw [← htc]
                      simp only [AV.strip, AV.strips]
                      rw [strip_slS strip_int, strip_tkF pieceV_strip hF]
                      exact hK
                  · rw [if_neg hR] at run
                    rw [decide_eq_false hR]
                    simp -dsimp only [↓reduceIte, go_sem, t2, t17, t8, t11, t18]
                    rw [zero25]
                    refine ⟨zeroOf25, rfl, built25, ?_⟩
                    rw [fill_nil]
                    simp -dsimp only [↓reduceIte, go_sem, t2, t17, t8, t11, t18]
                    refine later_intro ?_
                    exact zero _ _ (hx.trans (Ext.app _ _)) run
          · have h7 : x4.1.length ≠ x5.1.length := by simp at h7; omega
            rw [if_pos (.inl h7)] at run
            simp -dsimp only [↓reduceIte, go_sem, zero25]
            refine ⟨zeroOf25, built25, ?_⟩
            rw [fill_nil]
            simp -dsimp only [↓reduceIte, go_sem]
            exact zero _ _ (Ext.app _ _) run
end Go.Aff.L25

