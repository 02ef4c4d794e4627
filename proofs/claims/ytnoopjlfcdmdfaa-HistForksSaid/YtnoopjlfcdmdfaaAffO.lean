/- Regions: one order, or any. (1) Operations hang on their operands alone; pure ones have one value. -/
import Derived.Test.YtnoopjlfcdmdfaaAffN
import Derived.Orders
namespace Go.Aff
set_option linter.unusedVariables false
set_option linter.unusedSimpArgs false

variable {g g' : G} {w w' : World} {σ σ' : AST} {P : Program}

theorem opW_congr {ρ ρ' : Operand → AV} {o : Oper} {K : AV → AST → Prop} (h : ∀ x ∈ o.op.operands, ρ x = ρ' x) : opW P ρ o σ K = opW P ρ' o σ K := by
  obtain ⟨dst, op, type, pos, after, guard⟩ := o
  have pairs : ∀ ps : List (Nat × Operand), (∀ x ∈ ps.map (·.2), ρ x = ρ' x) → (ps.map fun p => (p.1, ρ p.2)) = (ps.map fun p => (p.1, ρ' p.2)) := fun ps hp =>
    List.map_congr_left fun p hm => by rw [hp p.2 (List.mem_map.2 ⟨p, hm, rfl⟩)]
  have ms : ∀ l : List Operand, (∀ x ∈ l, ρ x = ρ' x) → l.map ρ = l.map ρ' := fun l hl => List.map_congr_left hl
  cases op <;> simp only [Op.operands] at h <;> simp only [opW]
  case build t ps => rw [pairs ps.toList fun x hx => h x (by simpa using hx)]
  case buildSlice t n ps => rw [pairs ps.toList fun x hx => h x (by simpa using hx)]
  case makeFunc f first cap =>
    rw [ms first.toList fun x hx => h x (by simp at hx ⊢; exact .inl hx), ms cap.toList fun x hx => h x (by simp at hx ⊢; exact .inr hx)]
    have : (∀ x ∈ first.toList ++ cap.toList, (ρ x).known = true) = (∀ x ∈ first.toList ++ cap.toList, (ρ' x).known = true) := by
      apply propext
      constructor
      · intro hh x hx; rw [← h x (by simpa using hx)]; exact hh x hx
      · intro hh x hx; rw [h x (by simpa using hx)]; exact hh x hx
    rw [this]
  case slice t x lo hi mx => cases lo <;> cases hi <;> cases mx <;> simp_all
  case call c =>
    unfold callW
    have ha : c.args.toList.map ρ = c.args.toList.map ρ' := ms _ fun x hx => h x (by simp [Call.operands] at hx ⊢; exact .inr hx)
    have hargs : ∀ x ∈ c.args.toList, ρ x = ρ' x := fun x hx => h x (by simp [Call.operands] at hx ⊢; exact .inr hx)
    cases hc : c.callee with
    | value f =>
      have hf : ρ f = ρ' f := h f (by simp [Call.operands, hc])
      simp only [hf, ha]
    | invoke r m => rfl
    | builtin b =>
      cases b <;> simp only [ha]
      · cases hq : c.args.toList with
        | nil => rfl
        | cons s l =>
          cases l with
          | nil => rfl
          | cons x l =>
            cases l with
            | nil => simp only; rw [hargs s (by simp [hq]), hargs x (by simp [hq])]
            | cons y l => rfl
      · cases hq : c.args.toList with
        | nil => rfl
        | cons s l =>
          cases l with
          | nil => simp only; rw [hargs s (by simp [hq])]
          | cons x l => rfl
  all_goals (first | rfl | (simp_all; done))

/-- An operation that may turn the state. -/
def effO (P : Program) (o : Oper) : Bool := match o.op with
  | .move _ | .assign _ | .pick _ _ _ | .build _ _ | .buildSlice _ _ _ | .load _ _ | .nilCheck _ | .binOp _ _ _ _ _ | .unOp _ _ _ | .makeInterface _ _ | .makeFunc _ _ _
  | .slice _ _ _ _ _ | .fieldAddr _ _ _ | .field _ _ _ | .indexAddr _ _ _ | .index _ _ _ | .extract _ _ => false
  | .convert _ d _ => match P.underlying d with
    | some (.slice _) => true
    | _ => false
  | .call c => match c.callee with
    | .builtin .len | .builtin .min | .builtin .max => false
    | _ => true
  | _ => true

def lenOk : AV → Prop
  | .str s => s.length ≤ maxL
  | .slice _ xs => xs.length ≤ maxL
  | _ => True

theorem lenOk_of {v : AV} {x : Value} (h : relV g w v x) : lenOk v := by
  cases v <;> simp only [lenOk]
  · exact (relV_str h).2
  · obtain ⟨_, _, _, _, _, _, h1, h2, _⟩ := relV_slice h; omega

theorem fill_det {t : TypeId} : ∀ {parts : List (Nat × AV)} {v : AV} {K : AV → Prop}, fillW P t parts v K → ∃ v', K v' ∧ ∀ K' : AV → Prop, K' v' → fillW P t parts v K'
  | [], v, K, h => ⟨v, by unfold fillW at h; exact h, fun K' hk => by unfold fillW; exact hk⟩
  | (i, x) :: r, v, K, h => by
    cases v with
    | agg ps =>
      simp only [fillW] at h
      obtain ⟨u, h1, h2, h3, h4, h5⟩ := h
      obtain ⟨v', hv, hk⟩ := fill_det h5
      exact ⟨v', hv, fun K' hK => by simp only [fillW]; exact ⟨u, h1, h2, h3, h4, hk K' hK⟩⟩
    | dig d =>
      have hx : ∃ n, x = .int .u8 n := by
        cases x with
        | int k n => cases k <;> first | exact ⟨n, rfl⟩ | simp [fillW] at h
        | _ => simp [fillW] at h
      obtain ⟨n, rfl⟩ := hx
      simp only [fillW] at h
      obtain ⟨h1, h2, h3, h4, h5⟩ := h
      obtain ⟨v', hv, hk⟩ := fill_det h5
      exact ⟨v', hv, fun K' hK => by simp only [fillW]; exact ⟨h1, h2, h3, h4, hk K' hK⟩⟩
    | _ => simp [fillW] at h

theorem int_det {op : BinOp} {k : IntKind} {a b : Int} {K : AV → Prop} (h : intW op k a b K) : ∃ v, K v ∧ ∀ K' : AV → Prop, K' v → intW op k a b K' := by
  cases op <;> simp only [intW] at h ⊢ <;> first | exact h.elim | exact ⟨_, h, fun _ h => h⟩ | exact ⟨_, h.2, fun _ h' => ⟨h.1, h'⟩⟩

theorem str_det {op : BinOp} {a b : List UInt8} {K : AV → Prop} (h : strW op a b K) : ∃ v, K v ∧ ∀ K' : AV → Prop, K' v → strW op a b K' := by
  cases op <;> simp only [strW] at h ⊢ <;> first | exact h.elim | exact ⟨_, h, fun _ h => h⟩ | exact ⟨_, h.2, fun _ h' => ⟨h.1, h'⟩⟩

theorem eq_det {op : BinOp} {r : Option Bool} {K : AV → Prop} (h : eqW op r K) : ∃ v, K v ∧ ∀ K' : AV → Prop, K' v → eqW op r K' := by
  cases op <;> simp only [eqW] at h ⊢
  · obtain ⟨b, h1, h2⟩ := h; exact ⟨_, h2, fun _ h' => ⟨b, h1, h'⟩⟩
  · obtain ⟨b, h1, h2⟩ := h; exact ⟨_, h2, fun _ h' => ⟨b, h1, h'⟩⟩

theorem bin_det {op : BinOp} {t : TypeId} {x y : AV} {K : AV → Prop} (h : binW P op t x y K) : ∃ v, K v ∧ ∀ K' : AV → Prop, K' v → binW P op t x y K' := by
  unfold binW at h
  split at h
  · obtain ⟨h1, h2⟩ := h
    obtain ⟨v, hv, hk⟩ := int_det h2
    exact ⟨v, hv, fun K' h' => ⟨h1, hk K' h'⟩⟩
  · obtain ⟨v, hv, hk⟩ := str_det h
    exact ⟨v, hv, fun K' h' => hk K' h'⟩
  · obtain ⟨v, hv, hk⟩ := eq_det h
    exact ⟨v, hv, fun K' h' => hk K' h'⟩
  · obtain ⟨v, hv, hk⟩ := eq_det h
    exact ⟨v, hv, fun K' h' => hk K' h'⟩
  · obtain ⟨h1, h2⟩ := h
    obtain ⟨v, hv, hk⟩ := eq_det h2
    exact ⟨v, hv, fun K' h' => ⟨h1, hk K' h'⟩⟩
  · obtain ⟨h1, h2⟩ := h
    obtain ⟨v, hv, hk⟩ := eq_det h2
    exact ⟨v, hv, fun K' h' => ⟨h1, hk K' h'⟩⟩
  · exact h.elim

theorem nth_det {α : Type} {l : List α} {n : Int} {Q : α → (AV → Prop) → Prop} (hQ : ∀ x K, Q x K → ∃ v, K v ∧ ∀ K' : AV → Prop, K' v → Q x K') {K : AV → Prop} (h : nthW l n fun x => Q x K) :
    ∃ v, K v ∧ ∀ K' : AV → Prop, K' v → nthW l n fun x => Q x K' := by
  obtain ⟨h0, h1, h2⟩ := h
  have hlt : n.toNat < l.length := by omega
  obtain ⟨v, hv, hk⟩ := hQ _ _ (h2 _ (List.getElem?_eq_getElem hlt))
  refine ⟨v, hv, fun K' h' => ⟨h0, h1, fun x hx => ?_⟩⟩
  rw [List.getElem?_eq_getElem hlt] at hx
  cases hx
  exact hk K' h'

theorem bnd_det {v : Option AV} {n : Nat} {Q : Nat → (AV → Prop) → Prop} (hQ : ∀ n K, Q n K → ∃ v, K v ∧ ∀ K' : AV → Prop, K' v → Q n K') {K : AV → Prop} (h : bndW v n fun n => Q n K) :
    ∃ v', K v' ∧ ∀ K' : AV → Prop, K' v' → bndW v n fun n => Q n K' := by
  unfold bndW at h ⊢
  split at h
  · exact hQ _ _ h
  · obtain ⟨v', hv, hk⟩ := hQ _ _ h.2
    exact ⟨v', hv, fun K' h' => ⟨h.1, hk K' h'⟩⟩
  · exact h.elim

def maxW (mx hi : Option AV) (tk : Tk) (xs : List AV) (l h : Nat) (K : AV → Prop) : Prop := match mx with
  | none => K (.slice (subTk tk (h == xs.length)) ((xs.take h).drop l))
  | some (.int _ m) => m = h ∧ hi.isSome = true ∧ K (.slice .full ((xs.take h).drop l))
  | _ => False

theorem max_det {mx hi : Option AV} {tk : Tk} {xs : List AV} {l h : Nat} {K : AV → Prop} (hh : maxW mx hi tk xs l h K) : ∃ v, K v ∧ ∀ K' : AV → Prop, K' v → maxW mx hi tk xs l h K' := by
  unfold maxW at hh ⊢
  split at hh
  · exact ⟨_, hh, fun _ h => h⟩
  · exact ⟨_, hh.2.2, fun K' h' => ⟨hh.1, hh.2.1, h'⟩⟩
  · exact hh.elim

theorem slice_det {t : TypeId} {x : AV} {lo hi mx : Option AV} {K : AV → Prop} (h : sliceW P t x lo hi mx K) : ∃ v, K v ∧ ∀ K' : AV → Prop, K' v → sliceW P t x lo hi mx K' := by
  cases x with
  | str s =>
    simp only [sliceW] at h ⊢
    obtain ⟨h1, h2, h3⟩ := h
    obtain ⟨v, hv, hk⟩ := bnd_det (Q := fun l K => bndW hi s.length fun h => l ≤ h ∧ h ≤ s.length ∧ K (.str ((s.take h).drop l)))
      (fun l K h => bnd_det (Q := fun h K => l ≤ h ∧ h ≤ s.length ∧ K (.str ((s.take h).drop l))) (fun h K hh => ⟨_, hh.2.2, fun K' h' => ⟨hh.1, hh.2.1, h'⟩⟩) h) h3
    exact ⟨v, hv, fun K' h' => ⟨h1, h2, hk K' h'⟩⟩
  | slice tk xs =>
    have conv : ∀ K : AV → Prop, sliceW P t (.slice tk xs) lo hi mx K = ∃ e, P.underlying t = some (.slice e) ∧ (∀ v ∈ xs, v.size = P.cellsOf e) ∧ (∃ d, P.underlying e = some d) ∧ bndW lo 0 fun l => bndW hi xs.length fun h => l ≤ h ∧ h ≤ xs.length ∧ maxW mx hi tk xs l h K := by
      intro K
      unfold sliceW maxW
      rfl
    rw [conv] at h
    obtain ⟨e, h1, h2, h3, h4⟩ := h
    obtain ⟨v, hv, hk⟩ := bnd_det (Q := fun l K => bndW hi xs.length fun h => l ≤ h ∧ h ≤ xs.length ∧ maxW mx hi tk xs l h K)
      (fun l K h => bnd_det (Q := fun h K => l ≤ h ∧ h ≤ xs.length ∧ maxW mx hi tk xs l h K) (fun h K hh => by
        obtain ⟨v, hv, hk⟩ := max_det hh.2.2
        exact ⟨v, hv, fun K' h' => ⟨hh.1, hh.2.1, hk K' h'⟩⟩) h) h4
    exact ⟨v, hv, fun K' h' => by rw [conv]; exact ⟨e, h1, h2, h3, hk K' h'⟩⟩
  | _ => simp [sliceW] at h

theorem fieldAddr_det {t : TypeId} {i : Nat} {x : AV} {K : AV → Prop} (h : fieldAddrW P σ t x i K) : ∃ v, K v ∧ ∀ K' : AV → Prop, K' v → fieldAddrW P σ t x i K' := by
  unfold fieldAddrW at h ⊢
  split at h
  · split at h
    · split at h
      · split at h
        · exact ⟨_, h.2.2, fun K' h' => ⟨h.1, h.2.1, h'⟩⟩
        · exact h.elim
      · exact h.elim
    · exact h.elim
  · split at h
    · exact ⟨_, h.2.2, fun K' h' => ⟨h.1, h.2.1, h'⟩⟩
    · exact h.elim
  · exact h.elim

theorem index_det {t : TypeId} {x i : AV} {K : AV → Prop} (h : indexW P t x i K) : ∃ v, K v ∧ ∀ K' : AV → Prop, K' v → indexW P t x i K' := by
  cases i with
  | int k n =>
    cases x with
    | str s =>
      simp only [indexW] at h ⊢
      obtain ⟨v, hv, hk⟩ := nth_det (Q := fun (b : UInt8) K => K (.int .u8 b.toNat)) (fun x K h => ⟨_, h, fun _ h => h⟩) h.2
      exact ⟨v, hv, fun K' h' => ⟨h.1, hk K' h'⟩⟩
    | dig d =>
      simp only [indexW] at h ⊢
      obtain ⟨v, hv, hk⟩ := nth_det (Q := fun (b : UInt8) K => K (.int .u8 b.toNat)) (fun x K h => ⟨_, h, fun _ h => h⟩) h.2
      exact ⟨v, hv, fun K' h' => ⟨h.1, hk K' h'⟩⟩
    | agg ps =>
      simp only [indexW] at h ⊢
      exact nth_det (Q := fun x K => partIs P t ps n.toNat x ∧ (∃ e, P.underlying t = some (.array ps.length e)) ∧ K x) (fun x K h => ⟨_, h.2.2, fun K' h' => ⟨h.1, h.2.1, h'⟩⟩) h
    | _ => simp [indexW] at h
  | _ => simp [indexW] at h

theorem indexAddr_det {t : TypeId} {x i : AV} {K : AV → Prop} (h : indexAddrW P σ t x i K) : ∃ v, K v ∧ ∀ K' : AV → Prop, K' v → indexAddrW P σ t x i K' := by
  cases i with
  | int k n =>
    cases x with
    | slice tk xs =>
      simp only [indexAddrW] at h ⊢
      obtain ⟨e, h1, h2⟩ := h
      obtain ⟨v, hv, hk⟩ := nth_det (Q := fun x K => fits P e x ∧ 0 < x.size ∧ K (.eptr x)) (fun x K h => ⟨_, h.2.2, fun K' h' => ⟨h.1, h.2.1, h'⟩⟩) h2
      exact ⟨v, hv, fun K' h' => ⟨e, h1, hk K' h'⟩⟩
    | ptr q =>
      cases q with
      | none => simp [indexAddrW] at h
      | some q =>
        obtain ⟨j, p⟩ := q
        simp only [indexAddrW] at h ⊢
        cases ho : σ.objs[j]? with
        | none => simp [ho] at h
        | some ob =>
          cases ob with
          | cells v =>
            simp only [ho] at h ⊢
            cases hv : v.at p with
            | none => simp [hv] at h
            | some u =>
              cases u with
              | agg ps =>
                simp only [hv] at h ⊢
                exact nth_det (Q := fun x K => partIs P t ps n.toNat x ∧ (∃ e, P.underlying t = some (.array ps.length e)) ∧ K (.ptr (some (j, p ++ [n.toNat])))) (fun x K h => ⟨_, h.2.2, fun K' h' => ⟨h.1, h.2.1, h'⟩⟩) h
              | dig d =>
                simp only [hv] at h ⊢
                exact nth_det (Q := fun (x : UInt8) K => (∃ e, P.underlying t = some (.array 32 e) ∧ fits P e (.int .u8 0)) ∧ K (.ptr (some (j, p ++ [n.toNat])))) (fun x K h => ⟨_, h.2, fun K' h' => ⟨h.1, h'⟩⟩) h
              | _ => simp [hv] at h
          | map es => simp [ho] at h
          | gone => simp [ho] at h
          | pin l o vs xs => simp [ho] at h
    | eptr v =>
      cases v with
      | agg ps =>
        simp only [indexAddrW] at h ⊢
        exact nth_det (Q := fun x K => partIs P t ps n.toNat x ∧ (∃ e, P.underlying t = some (.array ps.length e)) ∧ K (.eptr x)) (fun x K h => ⟨_, h.2.2, fun K' h' => ⟨h.1, h.2.1, h'⟩⟩) h
      | _ => simp [indexAddrW] at h
    | _ => simp [indexAddrW] at h
  | _ => simp [indexAddrW] at h

theorem load_det {t : TypeId} {a : AV} {K : AV → Prop} (h : loadW P σ t a K) : ∃ v, K v ∧ ∀ K' : AV → Prop, K' v → loadW P σ t a K' := by
  unfold loadW at h ⊢
  split at h
  · split at h
    · split at h
      · exact ⟨_, h.2, fun K' h' => ⟨h.1, h'⟩⟩
      · exact h.elim
    · exact h.elim
  · exact ⟨_, h.2, fun K' h' => ⟨h.1, h'⟩⟩
  · exact h.elim

theorem op_det {ρ : Operand → AV} {o : Oper} {K : AV → AST → Prop} (hl : ∀ x, lenOk (ρ x)) (he : effO P o = false) (h : opW P ρ o σ K) : ∃ v, K v σ ∧ ∀ K' : AV → AST → Prop, K' v σ → opW P ρ o σ K' := by
  obtain ⟨dst, op, type, pos, after, guard⟩ := o
  -- what says of the value alone
  have lift : ∀ {Q : (AV → Prop) → Prop}, (∀ {K : AV → Prop}, Q K → ∃ v, K v ∧ ∀ K' : AV → Prop, K' v → Q K') → Q (fun v => K v σ) → ∃ v, K v σ ∧ ∀ K' : AV → AST → Prop, K' v σ → Q (fun v => K' v σ) := by
    intro Q hq hQ
    obtain ⟨v, hv, hk⟩ := hq hQ
    exact ⟨v, hv, fun K' h' => hk _ h'⟩
  cases op <;> simp only [effO] at he <;> simp only [opW] at h ⊢
  case move x => exact ⟨_, h, fun _ h => h⟩
  case assign x => exact ⟨_, h, fun _ h => h⟩
  case pick c a b =>
    unfold boolW at h ⊢
    split at h
    · rename_i t ht
      cases t
      · exact ⟨_, h.2 rfl, fun K' h' => ⟨(fun h => by cases h), fun _ => h'⟩⟩
      · exact ⟨_, h.1 rfl, fun K' h' => ⟨fun _ => h', (fun h => by cases h)⟩⟩
    · exact h.elim
  case build t ps =>
    obtain ⟨h1, h2, h3, h4⟩ := h
    obtain ⟨v, hv, hk⟩ := lift (Q := fun K => fillW P t (ps.toList.map fun p => (p.1, ρ p.2)) (zeroA P 12 t) K) fill_det h4
    exact ⟨v, hv, fun K' h' => ⟨h1, h2, h3, hk K' h'⟩⟩
  case buildSlice t n ps =>
    obtain ⟨e, h1, h2, h3, h4, h5, h6, h7⟩ := h
    rcases h7 with h7 | ⟨hn, h7⟩
    · exact ⟨_, h7, fun K' h' => ⟨e, h1, h2, h3, h4, h5, h6, .inl h'⟩⟩
    · exact ⟨_, h7, fun K' h' => ⟨e, h1, h2, h3, h4, h5, h6, .inr ⟨hn, h'⟩⟩⟩
  case load t a => exact lift (Q := fun K => loadW P σ t (ρ a) K) load_det h
  case nilCheck x =>
    split at h
    · exact ⟨_, h, fun _ h => h⟩
    · exact ⟨_, h, fun _ h => h⟩
    · exact ⟨_, h, fun _ h => h⟩
    · exact h.elim
  case binOp op t x y yt => exact lift (Q := fun K => binW P op t (ρ x) (ρ y) K) bin_det h
  case unOp op t x =>
    unfold unW at h ⊢
    split at h
    · exact ⟨_, h, fun _ h => h⟩
    · exact ⟨_, h, fun _ h => h⟩
    · exact h.elim
  case convert s d x =>
    unfold convW at h ⊢
    split at h
    · obtain ⟨k, h1, h2, h3⟩ := h
      exact ⟨_, h3, fun K' h' => ⟨k, h1, h2, h'⟩⟩
    · rcases h with ⟨h1, h2, h3⟩ | ⟨e, h1, h2, h3, h4⟩
      · exact ⟨_, h3, fun K' h' => .inl ⟨h1, h2, h'⟩⟩
      · rw [h1] at he; simp at he
    · rcases h with ⟨e, l, h1, h2, h3, h4, h5⟩ | ⟨h1, h2, e, h3, h4, h5⟩
      · exact ⟨_, h5, fun K' h' => .inl ⟨e, l, h1, h2, h3, h4, h'⟩⟩
      · exact ⟨_, h5, fun K' h' => .inr ⟨h1, h2, e, h3, h4, h'⟩⟩
    · exact h.elim
  case makeInterface t x => exact ⟨_, h.2.2, fun K' h' => ⟨h.1, h.2.1, h'⟩⟩
  case makeFunc f first cap => exact ⟨_, h.2, fun K' h' => ⟨h.1, h'⟩⟩
  case slice t x lo hi mx => exact lift (Q := fun K => sliceW P t (ρ x) (lo.map ρ) (hi.map ρ) (mx.map ρ) K) slice_det h
  case fieldAddr t x i =>
    obtain ⟨h1, h⟩ := h
    obtain ⟨v, hv, hk⟩ := lift (Q := fun K => fieldAddrW P σ t (ρ x) i K) fieldAddr_det h
    exact ⟨v, hv, fun K' h' => ⟨h1, hk K' h'⟩⟩
  case field t x i =>
    obtain ⟨h1, h⟩ := h
    unfold fieldW at h ⊢
    split at h
    · split at h
      · exact ⟨_, h.2, fun K' h' => ⟨h1, h.1, h'⟩⟩
      · exact h.elim
    · exact h.elim
  case indexAddr t x i => exact lift (Q := fun K => indexAddrW P σ t (ρ x) (ρ i) K) indexAddr_det h
  case index t x i => exact lift (Q := fun K => indexW P t (ρ x) (ρ i) K) index_det h
  case extract x i =>
    split at h
    · split at h
      · exact ⟨_, h, fun _ h => h⟩
      · exact h.elim
    · exact h.elim
  case call c =>
    unfold callW at h ⊢
    split at h
    · rename_i hc; simp [hc] at he
    · split at h
      · rename_i x hx
        obtain ⟨t, ht, h⟩ := h
        have hlx := hl x
        split at h
        · rename_i s hs
          rw [hs] at hlx
          exact ⟨_, h.2 hlx, fun K' h' => ⟨t, ht, by simp only [hs]; exact ⟨h.1, fun _ => h'⟩⟩⟩
        · rename_i tk xs hs
          rw [hs] at hlx
          exact ⟨_, h.2 hlx, fun K' h' => ⟨t, ht, by simp only [hs]; exact ⟨h.1, fun _ => h'⟩⟩⟩
        · exact h.elim
      · exact h.elim
    · refine lift (Q := fun K => mmW true (c.args.toList.map ρ) K) ?_ h
      intro K h
      unfold mmW at h ⊢
      split at h
      · exact ⟨_, h.2, fun K' h' => ⟨h.1, h'⟩⟩
      · exact h.elim
    · refine lift (Q := fun K => mmW false (c.args.toList.map ρ) K) ?_ h
      intro K h
      unfold mmW at h ⊢
      split at h
      · exact ⟨_, h.2, fun K' h' => ⟨h.1, h'⟩⟩
      · exact h.elim
    · rename_i hc; simp [hc] at he
    · exact h.elim
  all_goals (first | exact h.elim | (simp at he; done))

end Go.Aff
