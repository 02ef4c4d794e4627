import Derived.Test.YtahhjdknfhkgcaaG4
import Derived.Orders
import Derived.OrdersIn

set_option linter.unusedSimpArgs false
set_option linter.unusedVariables false

namespace Go.Aff

variable {g g' : G} {w w' : World} {σ σ' : AST} {P : Program}

theorem opW_congr {ρ ρ' : Operand → AV} {o : Oper} {K : AV → AST → Prop} (h : ∀ x ∈ o.op.operands, ρ x = ρ' x) : opW P ρ o σ K = opW P ρ' o σ K := by
  obtain ⟨dst, op, type, pos, after, guard⟩ := o
  have pairs : ∀ ps : List (Nat × Operand), (∀ x ∈ ps.map (·.2), ρ x = ρ' x) → (ps.map fun p => (p.1, ρ p.2)) = (ps.map fun p => (p.1, ρ' p.2)) := fun ps hp =>
    List.map_congr_left fun p hm => by rw [hp p.2 (List.mem_map.2 ⟨p, hm, rfl⟩)]
  have ms : ∀ l : List Operand, (∀ x ∈ l, ρ x = ρ' x) → l.map ρ = l.map ρ' := fun l hl => List.map_congr_left hl
  cases op <;> simp only [Op.operands] at h <;> simp only [opW]
  case build t ps => rw [pairs ps.toList fun x hx => h x (by simpa using hx)]
  case buildSlice t n ps => rw [pairs ps.toList fun x hx => h x (by simpa using hx)]
  case makeFunc f first cap =>
    rw [ms first.toList fun x hx => h x (by simp at hx ⊢; exact .inl hx), ms cap.toList fun x hx => h x (by simp at hx ⊢; exact .inr hx)]
    have : (∀ x ∈ first.toList ++ cap.toList, (ρ x).known = true) = (∀ x ∈ first.toList ++ cap.toList, (ρ' x).known = true) := by
      apply propext
      constructor
      · intro hh x hx; rw [← h x (by simpa using hx)]; exact hh x hx
      · intro hh x hx; rw [h x (by simpa using hx)]; exact hh x hx
    rw [this]
  case slice t x lo hi mx => cases lo <;> cases hi <;> cases mx <;> simp_all
  case makeMap t r => cases r <;> rfl
  case call c =>
    unfold callW
    have ha : c.args.toList.map ρ = c.args.toList.map ρ' := ms _ fun x hx => h x (by simp [Call.operands] at hx ⊢; exact .inr hx)
    have hargs : ∀ x ∈ c.args.toList, ρ x = ρ' x := fun x hx => h x (by simp [Call.operands] at hx ⊢; exact .inr hx)
    cases hc : c.callee with
    | value f =>
      have hf : ρ f = ρ' f := h f (by simp [Call.operands, hc])
      simp only [hf, ha]
    | invoke r m =>
      have hf : ρ r = ρ' r := h r (by simp [Call.operands, hc])
      simp only [hf, ha]
    | builtin b =>
      cases b <;> simp only [ha]
      all_goals
        cases hq : c.args.toList with
        | nil => rfl
        | cons s l =>
          cases l with
          | nil => first | rfl | (simp only; rw [hargs s (by simp [hq])])
          | cons x l =>
            cases l with
            | nil => first | rfl | (simp only; rw [hargs s (by simp [hq]), hargs x (by simp [hq])])
            | cons y l => rfl
  all_goals (first | rfl | (simp_all; done))

def effO (P : Program) (o : Oper) : Bool := match o.op with
  | .move _ | .assign _ | .pick _ _ _ | .build _ _ | .buildSlice _ _ _ | .load _ _ | .nilCheck _ | .binOp _ _ _ _ _ | .unOp _ _ _ | .makeInterface _ _ | .makeFunc _ _ _
  | .slice _ _ _ _ _ | .fieldAddr _ _ _ | .field _ _ _ | .indexAddr _ _ _ | .index _ _ _ | .extract _ _ => false
  | .convert _ d _ => match P.underlying d with
    | some (.slice _) => true
    | _ => false
  | .call c => match c.callee with
    | .builtin .len | .builtin .min | .builtin .max => false
    | _ => true
  | _ => true

def lenOk : AV → Prop
  | .str s => s.length ≤ maxL
  | .slice _ xs => xs.length ≤ maxL
  | .arr _ _ n => n ≤ maxL
  | _ => True

theorem lenOk_of {v : AV} {x : Value} (h : relV g w v x) : lenOk v := by
  cases v <;> simp only [lenOk]
  · exact (relV_str h).2
  · obtain ⟨_, _, _, _, _, _, _, _, h1, h2, _⟩ := relV_slice h; omega
  · have := (relV_scalar h rfl rfl).1
    simp only [relC] at this
    obtain ⟨_, _, _, _, _, _, _, h1, h2⟩ := this; omega

theorem fill_det {t : TypeId} : ∀ {parts : List (Nat × AV)} {v : AV} {K : AV → Prop}, fillW P t parts v K → ∃ v', K v' ∧ ∀ K' : AV → Prop, K' v' → fillW P t parts v K'
  | [], v, K, h => ⟨v, by unfold fillW at h; exact h, fun K' hk => by unfold fillW; exact hk⟩
  | (i, x) :: r, v, K, h => by
    cases v with
    | agg ps =>
      simp only [fillW] at h
      obtain ⟨u, h1, h2, h3, h4, h5⟩ := h
      obtain ⟨v', hv, hk⟩ := fill_det h5
      exact ⟨v', hv, fun K' hK => by simp only [fillW]; exact ⟨u, h1, h2, h3, h4, hk K' hK⟩⟩
    | dig d =>
      have hx : ∃ n, x = .int .u8 n := by
        cases x with
        | int k n => cases k <;> first | exact ⟨n, rfl⟩ | simp [fillW] at h
        | _ => simp [fillW] at h
      obtain ⟨n, rfl⟩ := hx
      simp only [fillW] at h
      obtain ⟨h1, h2, h3, h4, h5⟩ := h
      obtain ⟨v', hv, hk⟩ := fill_det h5
      exact ⟨v', hv, fun K' hK => by simp only [fillW]; exact ⟨h1, h2, h3, h4, hk K' hK⟩⟩
    | _ => simp [fillW] at h

theorem int_det {op : BinOp} {k : IntKind} {a b : Int} {K : AV → Prop} (h : intW op k a b K) : ∃ v, K v ∧ ∀ K' : AV → Prop, K' v → intW op k a b K' := by
  cases op <;> simp only [intW] at h ⊢ <;> first | exact h.elim | exact ⟨_, h, fun _ h => h⟩ | exact ⟨_, h.2, fun _ h' => ⟨h.1, h'⟩⟩

theorem str_det {op : BinOp} {a b : List UInt8} {K : AV → Prop} (h : strW op a b K) : ∃ v, K v ∧ ∀ K' : AV → Prop, K' v → strW op a b K' := by
  cases op <;> simp only [strW] at h ⊢ <;> first | exact h.elim | exact ⟨_, h, fun _ h => h⟩ | exact ⟨_, h.2, fun _ h' => ⟨h.1, h'⟩⟩

theorem eq_det {op : BinOp} {r : Option Bool} {K : AV → Prop} (h : eqW op r K) : ∃ v, K v ∧ ∀ K' : AV → Prop, K' v → eqW op r K' := by
  cases op <;> simp only [eqW] at h ⊢
  · obtain ⟨b, h1, h2⟩ := h; exact ⟨_, h2, fun _ h' => ⟨b, h1, h'⟩⟩
  · obtain ⟨b, h1, h2⟩ := h; exact ⟨_, h2, fun _ h' => ⟨b, h1, h'⟩⟩

theorem bin_det {op : BinOp} {t : TypeId} {x y : AV} {K : AV → Prop} (h : binW P op t x y K) : ∃ v, K v ∧ ∀ K' : AV → Prop, K' v → binW P op t x y K' := by
  unfold binW at h
  split at h
  · obtain ⟨h1, h2⟩ := h
    obtain ⟨v, hv, hk⟩ := int_det h2
    exact ⟨v, hv, fun K' h' => ⟨h1, hk K' h'⟩⟩
  · obtain ⟨v, hv, hk⟩ := str_det h
    exact ⟨v, hv, fun K' h' => hk K' h'⟩
  · obtain ⟨v, hv, hk⟩ := eq_det h
    exact ⟨v, hv, fun K' h' => hk K' h'⟩
  · obtain ⟨v, hv, hk⟩ := eq_det h
    exact ⟨v, hv, fun K' h' => hk K' h'⟩
  · obtain ⟨h1, h2⟩ := h
    obtain ⟨v, hv, hk⟩ := eq_det h2
    exact ⟨v, hv, fun K' h' => ⟨h1, hk K' h'⟩⟩
  · obtain ⟨h1, h2⟩ := h
    obtain ⟨v, hv, hk⟩ := eq_det h2
    exact ⟨v, hv, fun K' h' => ⟨h1, hk K' h'⟩⟩
  · exact h.elim

theorem nth_det {α : Type} {l : List α} {n : Int} {Q : α → (AV → Prop) → Prop} (hQ : ∀ x K, Q x K → ∃ v, K v ∧ ∀ K' : AV → Prop, K' v → Q x K') {K : AV → Prop} (h : nthW l n fun x => Q x K) :
    ∃ v, K v ∧ ∀ K' : AV → Prop, K' v → nthW l n fun x => Q x K' := by
  obtain ⟨h0, h1, h2⟩ := h
  have hlt : n.toNat < l.length := by omega
  obtain ⟨v, hv, hk⟩ := hQ _ _ (h2 _ (List.getElem?_eq_getElem hlt))
  refine ⟨v, hv, fun K' h' => ⟨h0, h1, fun x hx => ?_⟩⟩
  rw [List.getElem?_eq_getElem hlt] at hx
  cases hx
  exact hk K' h'

theorem bnd_det {v : Option AV} {n : Nat} {Q : Nat → (AV → Prop) → Prop} (hQ : ∀ n K, Q n K → ∃ v, K v ∧ ∀ K' : AV → Prop, K' v → Q n K') {K : AV → Prop} (h : bndW v n fun n => Q n K) :
    ∃ v', K v' ∧ ∀ K' : AV → Prop, K' v' → bndW v n fun n => Q n K' := by
  unfold bndW at h ⊢
  split at h
  · exact hQ _ _ h
  · obtain ⟨v', hv, hk⟩ := hQ _ _ h.2
    exact ⟨v', hv, fun K' h' => ⟨h.1, hk K' h'⟩⟩
  · exact h.elim

def maxW (mx hi : Option AV) (tk : Tk) (xs : List AV) (l h : Nat) (K : AV → Prop) : Prop := match mx with
  | none => K (.slice (subTk tk (h == xs.length)) ((xs.take h).drop l))
  | some (.int _ m) => m = h ∧ hi.isSome = true ∧ K (.slice .full ((xs.take h).drop l))
  | _ => False

theorem max_det {mx hi : Option AV} {tk : Tk} {xs : List AV} {l h : Nat} {K : AV → Prop} (hh : maxW mx hi tk xs l h K) : ∃ v, K v ∧ ∀ K' : AV → Prop, K' v → maxW mx hi tk xs l h K' := by
  unfold maxW at hh ⊢
  split at hh
  · exact ⟨_, hh, fun _ h => h⟩
  · exact ⟨_, hh.2.2, fun K' h' => ⟨hh.1, hh.2.1, h'⟩⟩
  · exact hh.elim

theorem slice_det {t : TypeId} {x : AV} {lo hi mx : Option AV} {K : AV → Prop} (h : sliceW P t x lo hi mx K) : ∃ v, K v ∧ ∀ K' : AV → Prop, K' v → sliceW P t x lo hi mx K' := by
  cases x with
  | str s =>
    simp only [sliceW] at h ⊢
    obtain ⟨h1, h2, h3⟩ := h
    obtain ⟨v, hv, hk⟩ := bnd_det (Q := fun l K => bndW hi s.length fun h => l ≤ h ∧ h ≤ s.length ∧ K (.str ((s.take h).drop l)))
      (fun l K h => bnd_det (Q := fun h K => l ≤ h ∧ h ≤ s.length ∧ K (.str ((s.take h).drop l))) (fun h K hh => ⟨_, hh.2.2, fun K' h' => ⟨hh.1, hh.2.1, h'⟩⟩) h) h3
    exact ⟨v, hv, fun K' h' => ⟨h1, h2, hk K' h'⟩⟩
  | slice tk xs =>
    have conv : ∀ K : AV → Prop, sliceW P t (.slice tk xs) lo hi mx K = ∃ e, P.underlying t = some (.slice e) ∧ (∀ v ∈ xs, v.size = P.cellsOf e) ∧ (∃ d, P.underlying e = some d) ∧ bndW lo 0 fun l => bndW hi xs.length fun h => l ≤ h ∧ h ≤ xs.length ∧ maxW mx hi tk xs l h K := by
      intro K
      unfold sliceW maxW
      rfl
    rw [conv] at h
    obtain ⟨e, h1, h2, h3, h4⟩ := h
    obtain ⟨v, hv, hk⟩ := bnd_det (Q := fun l K => bndW hi xs.length fun h => l ≤ h ∧ h ≤ xs.length ∧ maxW mx hi tk xs l h K)
      (fun l K h => bnd_det (Q := fun h K => l ≤ h ∧ h ≤ xs.length ∧ maxW mx hi tk xs l h K) (fun h K hh => by
        obtain ⟨v, hv, hk⟩ := max_det hh.2.2
        exact ⟨v, hv, fun K' h' => ⟨hh.1, hh.2.1, hk K' h'⟩⟩) h) h4
    exact ⟨v, hv, fun K' h' => by rw [conv]; exact ⟨e, h1, h2, h3, hk K' h'⟩⟩
  | ptr q =>
    cases q with
    | none => simp [sliceW] at h
    | some q =>
      obtain ⟨i, p⟩ := q
      simp only [sliceW] at h ⊢
      obtain ⟨e, n, h1, h3, h4, h5, h6, h7⟩ := h
      obtain ⟨v, hv, hk⟩ := bnd_det (Q := fun h K => h ≤ n ∧ K (.arr i p h)) (fun h K hh => ⟨_, hh.2, fun K' h' => ⟨hh.1, h'⟩⟩) h7
      exact ⟨v, hv, fun K' h' => ⟨e, n, h1, h3, h4, h5, h6, hk K' h'⟩⟩
  | _ => simp [sliceW] at h

theorem fieldAddr_det {t : TypeId} {i : Nat} {x : AV} {K : AV → Prop} (h : fieldAddrW P σ t x i K) : ∃ v, K v ∧ ∀ K' : AV → Prop, K' v → fieldAddrW P σ t x i K' := by
  unfold fieldAddrW at h ⊢
  split at h
  · split at h
    · split at h
      · split at h
        · exact ⟨_, h.2.2, fun K' h' => ⟨h.1, h.2.1, h'⟩⟩
        · exact h.elim
      · exact h.elim
    · exact h.elim
  · split at h
    · exact ⟨_, h.2.2, fun K' h' => ⟨h.1, h.2.1, h'⟩⟩
    · exact h.elim
  · exact h.elim

theorem index_det {t : TypeId} {x i : AV} {K : AV → Prop} (h : indexW P t x i K) : ∃ v, K v ∧ ∀ K' : AV → Prop, K' v → indexW P t x i K' := by
  cases i with
  | int k n =>
    cases x with
    | str s =>
      simp only [indexW] at h ⊢
      obtain ⟨v, hv, hk⟩ := nth_det (Q := fun (b : UInt8) K => K (.int .u8 b.toNat)) (fun x K h => ⟨_, h, fun _ h => h⟩) h.2
      exact ⟨v, hv, fun K' h' => ⟨h.1, hk K' h'⟩⟩
    | dig d =>
      simp only [indexW] at h ⊢
      obtain ⟨v, hv, hk⟩ := nth_det (Q := fun (b : UInt8) K => K (.int .u8 b.toNat)) (fun x K h => ⟨_, h, fun _ h => h⟩) h.2
      exact ⟨v, hv, fun K' h' => ⟨h.1, hk K' h'⟩⟩
    | agg ps =>
      simp only [indexW] at h ⊢
      exact nth_det (Q := fun x K => partIs P t ps n.toNat x ∧ (∃ e, P.underlying t = some (.array ps.length e)) ∧ K x) (fun x K h => ⟨_, h.2.2, fun K' h' => ⟨h.1, h.2.1, h'⟩⟩) h
    | _ => simp [indexW] at h
  | _ => simp [indexW] at h

theorem indexAddr_det {t : TypeId} {x i : AV} {K : AV → Prop} (h : indexAddrW P σ t x i K) : ∃ v, K v ∧ ∀ K' : AV → Prop, K' v → indexAddrW P σ t x i K' := by
  cases i with
  | int k n =>
    cases x with
    | slice tk xs =>
      simp only [indexAddrW] at h ⊢
      obtain ⟨e, h1, h2⟩ := h
      obtain ⟨v, hv, hk⟩ := nth_det (Q := fun x K => fits P e x ∧ 0 < x.size ∧ K (.eptr x)) (fun x K h => ⟨_, h.2.2, fun K' h' => ⟨h.1, h.2.1, h'⟩⟩) h2
      exact ⟨v, hv, fun K' h' => ⟨e, h1, hk K' h'⟩⟩
    | ptr q =>
      cases q with
      | none => simp [indexAddrW] at h
      | some q =>
        obtain ⟨j, p⟩ := q
        simp only [indexAddrW] at h ⊢
        cases ho : σ.objs[j]? with
        | none => simp [ho] at h
        | some ob =>
          cases ob with
          | cells v =>
            simp only [ho] at h ⊢
            cases hv : v.at p with
            | none => simp [hv] at h
            | some u =>
              cases u with
              | agg ps =>
                simp only [hv] at h ⊢
                exact nth_det (Q := fun x K => partIs P t ps n.toNat x ∧ (∃ e, P.underlying t = some (.array ps.length e)) ∧ K (.ptr (some (j, p ++ [n.toNat])))) (fun x K h => ⟨_, h.2.2, fun K' h' => ⟨h.1, h.2.1, h'⟩⟩) h
              | dig d =>
                simp only [hv] at h ⊢
                exact nth_det (Q := fun (x : UInt8) K => (∃ e, P.underlying t = some (.array 32 e) ∧ fits P e (.int .u8 0)) ∧ K (.ptr (some (j, p ++ [n.toNat])))) (fun x K h => ⟨_, h.2, fun K' h' => ⟨h.1, h'⟩⟩) h
              | _ => simp [hv] at h
          | map es ck => simp [ho] at h
          | gone => simp [ho] at h
          | pin l o vs xs => simp [ho] at h
    | eptr v =>
      cases v with
      | agg ps =>
        simp only [indexAddrW] at h ⊢
        exact nth_det (Q := fun x K => partIs P t ps n.toNat x ∧ (∃ e, P.underlying t = some (.array ps.length e)) ∧ K (.eptr x)) (fun x K h => ⟨_, h.2.2, fun K' h' => ⟨h.1, h.2.1, h'⟩⟩) h
      | _ => simp [indexAddrW] at h
    | arr j p m =>
      simp only [indexAddrW] at h ⊢
      cases ho : σ.objs[j]? with
      | none => simp [ho] at h
      | some ob =>
        cases ob with
        | cells v =>
          simp only [ho] at h ⊢
          cases hv : v.at p with
          | none => simp [hv] at h
          | some u =>
            cases u with
            | agg ps =>
              simp only [hv] at h ⊢
              obtain ⟨e, h1, h2, h3, h4⟩ := h
              obtain ⟨v, hv, hk⟩ := nth_det (Q := fun x K => fits P e x ∧ K (.ptr (some (j, p ++ [n.toNat])))) (fun x K h => ⟨_, h.2, fun K' h' => ⟨h.1, h'⟩⟩) h4
              exact ⟨v, hv, fun K' h' => ⟨e, h1, h2, h3, hk K' h'⟩⟩
            | _ => simp [hv] at h
        | map es ck => simp [ho] at h
        | gone => simp [ho] at h
        | pin l o vs xs => simp [ho] at h
    | _ => simp [indexAddrW] at h
  | _ => simp [indexAddrW] at h

theorem load_det {t : TypeId} {a : AV} {K : AV → Prop} (h : loadW P σ t a K) : ∃ v, K v ∧ ∀ K' : AV → Prop, K' v → loadW P σ t a K' := by
  unfold loadW at h ⊢
  split at h
  · split at h
    · split at h
      · exact ⟨_, h.2, fun K' h' => ⟨h.1, h'⟩⟩
      · exact h.elim
    · exact h.elim
  · exact ⟨_, h.2, fun K' h' => ⟨h.1, h'⟩⟩
  · exact h.elim

theorem op_det {ρ : Operand → AV} {o : Oper} {K : AV → AST → Prop} (hl : ∀ x, lenOk (ρ x)) (he : effO P o = false) (h : opW P ρ o σ K) : ∃ v, K v σ ∧ ∀ K' : AV → AST → Prop, K' v σ → opW P ρ o σ K' := by
  obtain ⟨dst, op, type, pos, after, guard⟩ := o
  -- what says of the value alone
  have lift : ∀ {Q : (AV → Prop) → Prop}, (∀ {K : AV → Prop}, Q K → ∃ v, K v ∧ ∀ K' : AV → Prop, K' v → Q K') → Q (fun v => K v σ) → ∃ v, K v σ ∧ ∀ K' : AV → AST → Prop, K' v σ → Q (fun v => K' v σ) := by
    intro Q hq hQ
    obtain ⟨v, hv, hk⟩ := hq hQ
    exact ⟨v, hv, fun K' h' => hk _ h'⟩
  cases op <;> simp only [effO] at he <;> simp only [opW] at h ⊢
  case move x => exact ⟨_, h, fun _ h => h⟩
  case assign x => exact ⟨_, h, fun _ h => h⟩
  case pick c a b =>
    unfold boolW at h ⊢
    split at h
    · rename_i t ht
      cases t
      · exact ⟨_, h.2 rfl, fun K' h' => ⟨(fun h => by cases h), fun _ => h'⟩⟩
      · exact ⟨_, h.1 rfl, fun K' h' => ⟨fun _ => h', (fun h => by cases h)⟩⟩
    · exact h.elim
  case build t ps =>
    obtain ⟨h1, h2, h3, h4⟩ := h
    obtain ⟨v, hv, hk⟩ := lift (Q := fun K => fillW P t (ps.toList.map fun p => (p.1, ρ p.2)) (zeroA P 12 t) K) fill_det h4
    exact ⟨v, hv, fun K' h' => ⟨h1, h2, h3, hk K' h'⟩⟩
  case buildSlice t n ps =>
    obtain ⟨e, h1, h2, h3, h4, h5, h6, h7⟩ := h
    rcases h7 with h7 | ⟨hn, h7⟩
    · exact ⟨_, h7, fun K' h' => ⟨e, h1, h2, h3, h4, h5, h6, .inl h'⟩⟩
    · exact ⟨_, h7, fun K' h' => ⟨e, h1, h2, h3, h4, h5, h6, .inr ⟨hn, h'⟩⟩⟩
  case load t a => exact lift (Q := fun K => loadW P σ t (ρ a) K) load_det h
  case nilCheck x =>
    split at h
    · exact ⟨_, h, fun _ h => h⟩
    · exact ⟨_, h, fun _ h => h⟩
    · exact ⟨_, h, fun _ h => h⟩
    · exact h.elim
  case binOp op t x y yt => exact lift (Q := fun K => binW P op t (ρ x) (ρ y) K) bin_det h
  case unOp op t x =>
    unfold unW at h ⊢
    split at h
    · exact ⟨_, h, fun _ h => h⟩
    · exact ⟨_, h, fun _ h => h⟩
    · exact h.elim
  case convert s d x =>
    unfold convW at h ⊢
    split at h
    · obtain ⟨k, h1, h2, h3⟩ := h
      exact ⟨_, h3, fun K' h' => ⟨k, h1, h2, h'⟩⟩
    · rcases h with ⟨h1, h2, h3⟩ | ⟨e, h1, h2, h3, h4⟩
      · exact ⟨_, h3, fun K' h' => .inl ⟨h1, h2, h'⟩⟩
      · rw [h1] at he; simp at he
    · rcases h with ⟨e, l, h1, h2, h3, h4, h5⟩ | ⟨h1, h2, e, h3, h4, h5⟩
      · exact ⟨_, h5, fun K' h' => .inl ⟨e, l, h1, h2, h3, h4, h'⟩⟩
      · exact ⟨_, h5, fun K' h' => .inr ⟨h1, h2, e, h3, h4, h'⟩⟩
    · split at h
      · split at h
        · obtain ⟨h1, e, h2, h3, h4, h5⟩ := h
          exact ⟨_, h5, fun K' h' => ⟨h1, e, h2, h3, h4, h'⟩⟩
        · obtain ⟨e, l, h1, h2, h3, h4, h4', h5⟩ := h
          exact ⟨_, h5, fun K' h' => ⟨e, l, h1, h2, h3, h4, h4', h'⟩⟩
        · exact h.elim
      · exact h.elim
    · exact h.elim
  case makeInterface t x => exact ⟨_, h.2.2, fun K' h' => ⟨h.1, h.2.1, h'⟩⟩
  case makeFunc f first cap => exact ⟨_, h.2, fun K' h' => ⟨h.1, h'⟩⟩
  case slice t x lo hi mx => exact lift (Q := fun K => sliceW P t (ρ x) (lo.map ρ) (hi.map ρ) (mx.map ρ) K) slice_det h
  case fieldAddr t x i =>
    obtain ⟨h1, h⟩ := h
    obtain ⟨v, hv, hk⟩ := lift (Q := fun K => fieldAddrW P σ t (ρ x) i K) fieldAddr_det h
    exact ⟨v, hv, fun K' h' => ⟨h1, hk K' h'⟩⟩
  case field t x i =>
    obtain ⟨h1, h⟩ := h
    unfold fieldW at h ⊢
    split at h
    · split at h
      · exact ⟨_, h.2, fun K' h' => ⟨h1, h.1, h'⟩⟩
      · exact h.elim
    · exact h.elim
  case indexAddr t x i => exact lift (Q := fun K => indexAddrW P σ t (ρ x) (ρ i) K) indexAddr_det h
  case index t x i => exact lift (Q := fun K => indexW P t (ρ x) (ρ i) K) index_det h
  case extract x i =>
    split at h
    · split at h
      · exact ⟨_, h, fun _ h => h⟩
      · exact h.elim
    · exact h.elim
  case call c =>
    unfold callW at h ⊢
    split at h
    · rename_i hc; simp [hc] at he
    · split at h
      · rename_i x hx
        obtain ⟨t, ht, h⟩ := h
        have hlx := hl x
        split at h
        · rename_i s hs
          rw [hs] at hlx
          exact ⟨_, h.2 hlx, fun K' h' => ⟨t, ht, by simp only [hs]; exact ⟨h.1, fun _ => h'⟩⟩⟩
        · rename_i tk xs hs
          rw [hs] at hlx
          exact ⟨_, h.2 hlx, fun K' h' => ⟨t, ht, by simp only [hs]; exact ⟨h.1, fun _ => h'⟩⟩⟩
        · rename_i i p n hs
          rw [hs] at hlx
          exact ⟨_, h.2 hlx, fun K' h' => ⟨t, ht, by simp only [hs]; exact ⟨h.1, fun _ => h'⟩⟩⟩
        · rename_i hs
          exact ⟨_, h.2, fun K' h' => ⟨t, ht, by simp only [hs]; exact ⟨h.1, h'⟩⟩⟩
        · rename_i i hs
          obtain ⟨h1, h⟩ := h
          split at h
          · rename_i es ck ho
            exact ⟨_, h.2, fun K' h' => ⟨t, ht, by simp only [hs, ho]; exact ⟨h1, h.1, h'⟩⟩⟩
          · exact h.elim
        · exact h.elim
      · exact h.elim
    · rename_i hc; simp [hc] at he
    · refine lift (Q := fun K => mmW true (c.args.toList.map ρ) K) ?_ h
      intro K h
      unfold mmW at h ⊢
      split at h
      · exact ⟨_, h.2, fun K' h' => ⟨h.1, h'⟩⟩
      · exact h.elim
    · refine lift (Q := fun K => mmW false (c.args.toList.map ρ) K) ?_ h
      intro K h
      unfold mmW at h ⊢
      split at h
      · exact ⟨_, h.2, fun K' h' => ⟨h.1, h'⟩⟩
      · exact h.elim
    · rename_i hc; simp [hc] at he
    · rename_i hc; simp [hc] at he
    · rename_i hc; simp [hc] at he
    · rename_i hc; simp [hc] at he
    · exact h.elim
  all_goals (first | exact h.elim | (simp at he; done))

end Go.Aff

namespace Go.Aff

variable {g g' : G} {w w' : World} {σ σ' : AST} {P : Program} {ops : Array Oper}

def stepW (P : Program) (ops : Array Oper) (o : Oper) (τ : Env) (σ : AST) (K : AV → AST → Prop) : Prop := match o.guard with
  | none => opW P (ev τ) o σ K
  | some (j, want) => match (ops[j]?).bind (·.dst) with
    | none => False
    | some d => match τ d with
      | .bool b => (b = want → opW P (ev τ) o σ K) ∧ (b = !want → K (.tuple []) σ)
      | .tuple [] => K (.tuple []) σ
      | _ => False

theorem opW_mono {ρ : Operand → AV} {o : Oper} {K K' : AV → AST → Prop} (hk : ∀ v σ', K v σ' → K' v σ') (h : opW P ρ o σ K) : opW P ρ o σ K' := by
  obtain ⟨dst, op, type, pos, after, guard⟩ := o
  have lift : ∀ {Q : (AV → Prop) → Prop}, (∀ {K : AV → Prop}, Q K → ∃ v, K v ∧ ∀ K' : AV → Prop, K' v → Q K') → Q (fun v => K v σ) → Q (fun v => K' v σ) := by
    intro Q hq hQ
    obtain ⟨v, hv, h'⟩ := hq hQ
    exact h' _ (hk _ _ hv)
  cases op <;> simp only [opW] at h ⊢
  case move x => exact hk _ _ h
  case assign x => exact hk _ _ h
  case pick c a b =>
    unfold boolW at h ⊢
    split at h
    · exact ⟨fun e => hk _ _ (h.1 e), fun e => hk _ _ (h.2 e)⟩
    · exact h.elim
  case alloc e => exact ⟨h.1, hk _ _ h.2⟩
  case box e x => exact ⟨h.1, hk _ _ h.2⟩
  case build t ps => exact ⟨h.1, h.2.1, h.2.2.1, lift (Q := fun K => fillW P t (ps.toList.map fun p => (p.1, ρ p.2)) (zeroA P 12 t) K) fill_det h.2.2.2⟩
  case buildSlice t n ps => obtain ⟨e, h1, h2, h3, h4, h5, h6, h7⟩ := h; exact ⟨e, h1, h2, h3, h4, h5, h6, h7.imp (hk _ _) (fun x => ⟨x.1, hk _ _ x.2⟩)⟩
  case load t a => exact lift (Q := fun K => loadW P σ t (ρ a) K) load_det h
  case store t a x =>
    unfold storeW at h ⊢
    split at h
    · split at h
      · split at h
        · exact ⟨h.1, h.2.1, h.2.2.1, h.2.2.2.1, hk _ _ h.2.2.2.2⟩
        · exact h.elim
      · exact h.elim
    · exact h.elim
  case nilCheck x =>
    split at h
    · exact hk _ _ h
    · exact hk _ _ h
    · exact hk _ _ h
    · exact h.elim
  case binOp op t x y yt => exact lift (Q := fun K => binW P op t (ρ x) (ρ y) K) bin_det h
  case unOp op t x =>
    unfold unW at h ⊢
    split at h
    · exact hk _ _ h
    · exact hk _ _ h
    · exact h.elim
  case convert s d x =>
    unfold convW at h ⊢
    split at h
    · obtain ⟨k, h1, h2, h3⟩ := h; exact ⟨k, h1, h2, hk _ _ h3⟩
    · rcases h with ⟨h1, h2, h3⟩ | ⟨e, h1, h2, h3, h4⟩
      · exact .inl ⟨h1, h2, hk _ _ h3⟩
      · exact .inr ⟨e, h1, h2, h3, h4.imp (hk _ _) fun h n hn => hk _ _ (h n hn)⟩
    · rcases h with ⟨e, l, h1, h2, h3, h4, h5⟩ | ⟨h1, h2, e, h3, h4, h5⟩
      · exact .inl ⟨e, l, h1, h2, h3, h4, hk _ _ h5⟩
      · exact .inr ⟨h1, h2, e, h3, h4, hk _ _ h5⟩
    · split at h
      · split at h
        · obtain ⟨h1, e, h2, h3, h4, h5⟩ := h
          exact ⟨h1, e, h2, h3, h4, hk _ _ h5⟩
        · obtain ⟨e, l, h1, h2, h3, h4, h4', h5⟩ := h
          exact ⟨e, l, h1, h2, h3, h4, h4', hk _ _ h5⟩
        · exact h.elim
      · exact h.elim
    · exact h.elim
  case makeInterface t x => exact ⟨h.1, h.2.1, hk _ _ h.2.2⟩
  case makeFunc f first cap => exact ⟨h.1, hk _ _ h.2⟩
  case slice t x lo hi mx => exact lift (Q := fun K => sliceW P t (ρ x) (lo.map ρ) (hi.map ρ) (mx.map ρ) K) slice_det h
  case fieldAddr t x i => exact ⟨h.1, lift (Q := fun K => fieldAddrW P σ t (ρ x) i K) fieldAddr_det h.2⟩
  case field t x i =>
    refine ⟨h.1, ?_⟩
    have h := h.2
    unfold fieldW at h ⊢
    split at h
    · split at h
      · exact ⟨h.1, hk _ _ h.2⟩
      · exact h.elim
    · exact h.elim
  case indexAddr t x i => exact lift (Q := fun K => indexAddrW P σ t (ρ x) (ρ i) K) indexAddr_det h
  case index t x i => exact lift (Q := fun K => indexW P t (ρ x) (ρ i) K) index_det h
  case extract x i =>
    split at h
    · split at h
      · exact hk _ _ h
      · exact h.elim
    · exact h.elim
  case call c =>
    unfold callW at h ⊢
    split at h
    · split at h
      · rcases h with h | h
        · obtain ⟨t, u, e, xs, tk, ys, h0, h1, h2, h3, h4, h5, h6, h7, h8, h9⟩ := h
          refine .inl ⟨t, u, e, xs, tk, ys, h0, h1, h2, h3, h4, h5, h6, h7, h8, ?_⟩
          cases tk
          · exact h9
          · exact ⟨h9.1, hk _ _ h9.2⟩
          · exact h9
          · exact ⟨h9.1, hk _ _ h9.2⟩
        · exact .inr (appendL_mono hk h)
      · exact h.elim
    · split at h
      · rename_i x _
        obtain ⟨t, ht, h⟩ := h
        split at h
        · rename_i s hs
          exact ⟨t, ht, by simp only [hs]; exact ⟨h.1, fun q => hk _ _ (h.2 q)⟩⟩
        · rename_i tk xs hs
          exact ⟨t, ht, by simp only [hs]; exact ⟨h.1, fun q => hk _ _ (h.2 q)⟩⟩
        · rename_i i p n hs
          exact ⟨t, ht, by simp only [hs]; exact ⟨h.1, fun q => hk _ _ (h.2 q)⟩⟩
        · rename_i hs
          exact ⟨t, ht, by simp only [hs]; exact ⟨h.1, hk _ _ h.2⟩⟩
        · rename_i i hs
          obtain ⟨h1, h⟩ := h
          split at h
          · rename_i es ck ho
            exact ⟨t, ht, by simp only [hs, ho]; exact ⟨h1, h.1, hk _ _ h.2⟩⟩
          · exact h.elim
        · exact h.elim
      · exact h.elim
    · split at h
      · exact copyW_mono hk h
      · exact h.elim
    · unfold mmW at h ⊢
      split at h
      · exact ⟨h.1, hk _ _ h.2⟩
      · exact h.elim
    · unfold mmW at h ⊢
      split at h
      · exact ⟨h.1, hk _ _ h.2⟩
      · exact h.elim
    · split at h
      · exact deleteW_mono (fun s => hk _ s) h
      · exact h.elim
    · split at h
      · exact clearW_mono (fun s => hk _ s) h
      · exact h.elim
    · split at h
      · exact h.mono hk
      · exact h.mono hk
      · exact h.elim
    · split at h
      · obtain ⟨f, h1, h2⟩ := h; exact ⟨f, h1, h2.mono hk⟩
      · exact h.elim
    · exact h.elim
  case lookup t x k ok => exact lookupW_mono (fun v => hk v σ) h
  case mapUpdate t m k v => exact mapUpdateW_mono (fun s => hk _ s) h
  case mapEntry t m k => exact mapEntryW_mono hk h
  case entryStore t m st v => exact entryStoreW_mono (fun s => hk _ s) h
  case makeSlice t n c => exact makeSliceW_mono hk h
  case range t x => exact rangeW_mono hk h
  case next x s => exact nextW_mono hk h
  case entry x => exact entryW_mono (fun v => hk v σ) h
  case makeMap t r => cases r with
    | none => exact hk _ _ h
    | some r => exact h.elim
  all_goals exact h.elim

theorem stepW_mono {o : Oper} {τ : Env} {K K' : AV → AST → Prop} (hk : ∀ v σ', K v σ' → K' v σ') (h : stepW P ops o τ σ K) : stepW P ops o τ σ K' := by
  unfold stepW at h ⊢
  split at h
  · exact opW_mono hk h
  · split at h
    · exact h.elim
    · split at h
      · exact ⟨fun e => opW_mono hk (h.1 e), fun e => hk _ _ (h.2 e)⟩
      · exact hk _ _ h
      · exact h.elim

theorem stepW_congr {o : Oper} {τ τ' : Env} {K : AV → AST → Prop} (h : ∀ t ∈ o.looksAt ops, τ t = τ' t) : stepW P ops o τ σ K = stepW P ops o τ' σ K := by
  have hop : opW P (ev τ) o σ K = opW P (ev τ') o σ K := opW_congr fun x hx => by
    cases x with
    | tmp t => exact h t (by unfold Oper.looksAt; exact List.mem_append_left _ (List.mem_filterMap.2 ⟨.tmp t, by simpa using hx, rfl⟩))
    | _ => rfl
  unfold stepW
  rw [hop]
  cases hg : o.guard with
  | none => rfl
  | some x =>
    obtain ⟨j, want⟩ := x
    simp only
    cases hd : (ops[j]?).bind (·.dst) with
    | none => rfl
    | some d =>
      have : τ d = τ' d := h d (by unfold Oper.looksAt; exact List.mem_append_right _ (by simp [hg, hd]))
      simp only [this]

theorem stepW_det {o : Oper} {τ : Env} {K : AV → AST → Prop} (hl : ∀ t, lenOk (τ t)) (he : effO P o = false) (h : stepW P ops o τ σ K) : ∃ v, K v σ ∧ ∀ K' : AV → AST → Prop, K' v σ → stepW P ops o τ σ K' := by
  have hl' : ∀ x, lenOk (ev τ x) := by
    intro x
    cases x with
    | tmp t => exact hl t
    | const v => exact lenOk_of (absV_rel ⟨0, [], fun _ => none, []⟩ default v)
    | global _ => trivial
    | func _ => trivial
  unfold stepW at h ⊢
  cases hg : o.guard with
  | none => simp only [hg] at h ⊢; exact op_det hl' he h
  | some q =>
    obtain ⟨j, want⟩ := q
    simp only [hg] at h ⊢
    cases hd : (ops[j]?).bind (·.dst) with
    | none => simp [hd] at h
    | some d =>
      simp only [hd] at h ⊢
      cases hb : τ d with
      | bool b =>
        simp only [hb] at h ⊢
        by_cases hw : b = want
        · obtain ⟨v, hv, hk⟩ := op_det hl' he (h.1 hw)
          exact ⟨v, hv, fun K' h' => ⟨fun _ => hk K' h', fun e => by rw [hw] at e; cases want <;> cases e⟩⟩
        · have hw' : b = !want := by cases b <;> cases want <;> simp_all
          exact ⟨.tuple [], h.2 hw', fun K' h' => ⟨fun e => absurd e hw, fun _ => h'⟩⟩
      | tuple vs =>
        cases vs with
        | nil => simp only [hb] at h ⊢; exact ⟨.tuple [], h, fun K' h' => h'⟩
        | cons _ _ => simp [hb] at h
      | _ => simp [hb] at h

theorem relV_skip : relV g w (.tuple []) Go.undef := .inr (.inl ⟨[], #[], rfl, rfl, by simp [relVs]⟩)

theorem step_sound {r : Option Nat} {o : Oper} {a : Act} {τ : Env} {next : Act → World → Prop} {Q : Exit → Act → World → Prop} {K : AV → AST → Prop} (hI : Inv g σ w) (hρ : relE g w τ a.tmps)
    (h : stepW P ops o τ σ K) (hn : ∀ g' w' v x σ', Ev g w g' w' → Inv g' σ' w' → relV g' w' v x → K v σ' → next (a.put o.dst x) w') :
    if Region.wanted o (yielded ops a.tmps) then o.wpIn (FR r) 0 P a w next Q else (∀ f, o.about P w a.eval = some f → (FR r).fn f) ∧ next (a.put o.dst Go.undef) w := by
  unfold stepW at h
  split at h
  · rename_i hg
    have : Region.wanted o (yielded ops a.tmps) = true := by simp [Region.wanted, hg]
    rw [if_pos this]
    exact ⟨fun _ _ => trivial, by rw [semAt_sound h]; exact op_sound hI (ev_rel hρ) h hn⟩
  · rename_i j want hg
    split at h
    · exact h.elim
    · rename_i d hd
      split at h
      · rename_i b hb
        have hr := hρ d
        rw [hb] at hr
        have hv := relV_bool hr
        have hy : yielded ops a.tmps j = some b := by
          unfold yielded
          rw [hd]
          simp only [Option.bind_some]
          have : a.tmps[d]? = some (.bool b) := by
            unfold Array.getD at hv
            split at hv
            · rename_i hlt; rw [Array.getElem?_eq_getElem hlt]; exact congrArg some hv
            · cases hv
          rw [this]
        by_cases hw : b = want
        · have : Region.wanted o (yielded ops a.tmps) = true := by simp [Region.wanted, hg, hy, hw]
          rw [if_pos this]
          exact ⟨fun _ _ => trivial, by rw [semAt_sound (h.1 hw)]; exact op_sound hI (ev_rel hρ) (h.1 hw) hn⟩
        · have hw' : b = !want := by cases b <;> cases want <;> simp_all
          have : Region.wanted o (yielded ops a.tmps) = false := by simp [Region.wanted, hg, hy, hw]
          rw [this]
          exact ⟨fun _ _ => trivial, hn g w (.tuple []) _ σ (Ev.refl _ _) hI relV_skip (h.2 hw')⟩
      · rename_i hb
        have hr := hρ d
        rw [hb] at hr
        have hx : a.tmps.getD d Go.undef = .tuple #[] := by
          rcases hr with hr | ⟨vs, t, h1, h2, h3⟩ | ⟨hr, _⟩
          · cases hr
          · cases h1; simp only [relVs] at h3; rw [h2]; congr 1; exact Array.ext' (by simpa using h3)
          · simp [relC] at hr
        have hy : yielded ops a.tmps j = none := by
          unfold yielded
          rw [hd]
          simp only [Option.bind_some]
          unfold Array.getD at hx
          split at hx
          · rename_i hlt; rw [Array.getElem?_eq_getElem hlt]; simp only [Array.getInternal_eq_getElem] at hx; rw [hx]
          · rename_i hlt; rw [Array.getElem?_eq_none (by omega)]
        have : Region.wanted o (yielded ops a.tmps) = false := by simp [Region.wanted, hg, hy]
        rw [this]
        exact ⟨fun _ _ => trivial, hn g w (.tuple []) _ σ (Ev.refl _ _) hI relV_skip h⟩
      · exact h.elim

/-! ### What stands ahead of what -/

def ancStep (acc : List Nat) (o : Oper) : Nat := o.after.toList.foldr (fun e s => if Region.binds .any e then s ||| (1 <<< e.on) ||| acc.getD e.on 0 else s) 0

def ancs : List Oper → List Nat → List Nat
  | [], acc => acc
  | o :: r, acc => ancs r (acc ++ [ancStep acc o])

def anc (ops : Array Oper) : List Nat := ancs ops.toList []

def ahead (b : List Nat) (i j : Nat) : Bool := (b.getD i 0).testBit j

theorem ancStep_bit {acc : List Nat} {o : Oper} {x : Nat} (h : (ancStep acc o).testBit x = true) : ∃ e ∈ o.after.toList, Region.binds .any e = true ∧ (e.on = x ∨ (acc.getD e.on 0).testBit x = true) := by
  unfold ancStep at h
  generalize o.after.toList = l at h ⊢
  induction l with
  | nil => simp at h
  | cons e l ih =>
    simp only [List.foldr_cons] at h
    split at h
    · rename_i hb
      simp only [Nat.testBit_or, Bool.or_eq_true] at h
      rcases h with (h | h) | h
      · obtain ⟨e', he', hh⟩ := ih h; exact ⟨e', List.mem_cons_of_mem _ he', hh⟩
      · refine ⟨e, by simp, hb, .inl ?_⟩
        rw [Nat.one_shiftLeft, Nat.testBit_two_pow] at h
        simpa using h
      · exact ⟨e, by simp, hb, .inr h⟩
    · obtain ⟨e', he', hh⟩ := ih h; exact ⟨e', List.mem_cons_of_mem _ he', hh⟩

theorem ancs_bit : ∀ (r : List Oper) (done : List Oper) (acc : List Nat), acc.length = done.length →
    (∀ y x, (acc.getD y 0).testBit x = true → ∃ o, done[y]? = some o ∧ ∃ e ∈ o.after.toList, Region.binds .any e = true ∧ (e.on = x ∨ (acc.getD e.on 0).testBit x = true)) →
    ∀ y x, ((ancs r acc).getD y 0).testBit x = true → ∃ o, (done ++ r)[y]? = some o ∧ ∃ e ∈ o.after.toList, Region.binds .any e = true ∧ (e.on = x ∨ ((ancs r acc).getD e.on 0).testBit x = true)
  | [], done, acc, hl, h => by simpa [ancs] using h
  | o :: r, done, acc, hl, h => by
    have ext : ∀ (k x : Nat), (acc.getD k 0).testBit x = true → ((acc ++ [ancStep acc o]).getD k 0).testBit x = true := by
      intro k x hk
      by_cases hlt : k < acc.length
      · simp only [List.getD_eq_getElem?_getD, List.getElem?_append_left hlt] at hk ⊢; exact hk
      · rw [List.getD_eq_getElem?_getD, List.getElem?_eq_none (by omega)] at hk; simp at hk
    have := ancs_bit r (done ++ [o]) (acc ++ [ancStep acc o]) (by simp [hl]) (by
      intro y x hy
      by_cases hlt : y < acc.length
      · simp only [List.getD_eq_getElem?_getD, List.getElem?_append_left hlt] at hy
        obtain ⟨q, hq, e, he, hb, hh⟩ := h y x (by simpa only [List.getD_eq_getElem?_getD] using hy)
        exact ⟨q, getElem?_append_some hq, e, he, hb, hh.imp id (ext _ _)⟩
      · by_cases heq : y = acc.length
        · subst heq
          simp only [List.getD_eq_getElem?_getD, List.getElem?_concat_length, Option.getD_some] at hy
          obtain ⟨e, he, hb, hh⟩ := ancStep_bit hy
          exact ⟨o, by rw [hl]; simp, e, he, hb, hh.imp id (ext _ _)⟩
        · rw [List.getD_eq_getElem?_getD, List.getElem?_eq_none (by simp; omega)] at hy; simp at hy)
    simpa [ancs] using this

theorem anc_bit {y x : Nat} (h : ahead (anc ops) y x = true) : ∃ o, ops[y]? = some o ∧ ∃ e ∈ o.after.toList, Region.binds .any e = true ∧ (e.on = x ∨ ahead (anc ops) e.on x = true) := by
  have := ancs_bit ops.toList [] [] rfl (by intro y x h; simp at h) y x h
  simpa [anc, ahead] using this

theorem ancs_prefix : ∀ (r : List Oper) (acc : List Nat) (k : Nat), k < acc.length → (ancs r acc)[k]? = acc[k]?
  | [], acc, k, _ => rfl
  | o :: r, acc, k, h => by
    simp only [ancs]
    rw [ancs_prefix r _ k (by simp; omega), List.getElem?_append_left h]

theorem ancStep_edge {acc : List Nat} {o : Oper} {e : Edge} (he : e ∈ o.after.toList) (hb : Region.binds .any e = true) : (ancStep acc o).testBit e.on = true := by
  unfold ancStep
  generalize o.after.toList = l at he
  induction l with
  | nil => simp at he
  | cons x l ih =>
    simp only [List.foldr_cons]
    rcases List.mem_cons.1 he with rfl | he
    · rw [if_pos hb]
      simp [Nat.testBit_or, Nat.one_shiftLeft, Nat.testBit_two_pow]
    · have := ih he
      split
      · simp only [Nat.testBit_or, this, Bool.true_or]
      · exact this

theorem ancs_edge : ∀ (r : List Oper) (acc : List Nat) (k : Nat) (o : Oper) (e : Edge), r[k]? = some o → e ∈ o.after.toList → Region.binds .any e = true → ((ancs r acc).getD (acc.length + k) 0).testBit e.on = true
  | [], acc, k, o, e, h, _, _ => by simp at h
  | q :: r, acc, 0, o, e, h, he, hb => by
    simp at h; subst h
    simp only [ancs, List.getD_eq_getElem?_getD]
    rw [ancs_prefix r _ _ (by simp)]
    simp [ancStep_edge he hb]
  | q :: r, acc, k + 1, o, e, h, he, hb => by
    simp at h
    have := ancs_edge r (acc ++ [ancStep acc q]) k o e h he hb
    simp only [ancs]
    simpa [Nat.add_assoc, Nat.add_comm 1 k] using this

theorem anc_edge {y : Nat} {o : Oper} {e : Edge} (ho : ops[y]? = some o) (he : e ∈ o.after.toList) (hb : Region.binds .any e = true) : ahead (anc ops) y e.on = true := by
  have := ancs_edge ops.toList [] y o e (by simpa using ho) he hb
  simpa [anc, ahead] using this

def pairOk (P : Program) (ops : Array Oper) (b : List Nat) (x y : Nat) : Bool :=
  !ahead b x y && (ahead b y x || match ops[x]?, ops[y]? with
    | some o, some q => o.apart ops q && !effO P o
    | _, _ => false)

def pairsOk (P : Program) (ops : Array Oper) (b : List Nat) : List Nat → Bool
  | [] => true
  | x :: r => r.all (pairOk P ops b x) && pairsOk P ops b r

def edgesOk (ops : Array Oper) : Bool := ops.all fun o => o.after.all fun e => !Region.binds .any e || e.on < ops.size

def ordOk (P : Program) (ops : Array Oper) (ord : List Nat) : Bool :=
  decide (ord.length = ops.size) && ord.all (· < ops.size) && decide ord.Nodup && pairsOk P ops (anc ops) ord && ord.all (fun i => !ahead (anc ops) i i) && edgesOk ops && (List.range ops.size).all (fun i => ord.contains i)

/-! ### A region in whatever order -/

def lateW (P : Program) (ops : Array Oper) (i : Nat) (past : List (Nat × Env × AV)) (σ : AST) : Prop :=
  ∀ x ∈ past, ahead (anc ops) i x.1 = false → ∀ o, ops[x.1]? = some o → stepW P ops o x.2.1 σ fun v' σ'' => v' = x.2.2 ∧ σ'' = σ

def awpD (P : Program) (ops : Array Oper) : List Nat → List (Nat × Env × AV) → Env → AST → (Env → AST → Prop) → Prop
  | [], _, τ, σ, K => K τ σ
  | i :: rest, past, τ, σ, K => match ops[i]? with
    | none => False
    | some o => if effO P o = true then stepW P ops o τ σ fun v σ' => lateW P ops i past σ' ∧ ((∀ t, lenOk ((τ.putO o.dst v) t)) → awpD P ops rest past (τ.putO o.dst v) σ' K)
      else stepW P ops o τ σ fun v σ' => (∀ t, lenOk ((τ.putO o.dst v) t)) → awpD P ops rest ((i, τ, v) :: past) (τ.putO o.dst v) σ' K

def likePast (ops : Array Oper) (E1 E2 : List (Nat × Env × AV)) : Prop :=
  ∀ x2 ∈ E2, ∃ x1 ∈ E1, x1.1 = x2.1 ∧ x1.2.2 = x2.2.2 ∧ ∀ o, ops[x2.1]? = some o → ∀ t ∈ o.looksAt ops, x1.2.1 t = x2.2.1 t

theorem lateW_like {i : Nat} {E1 E2 : List (Nat × Env × AV)} (h : likePast ops E1 E2) (hl : lateW P ops i E1 σ) : lateW P ops i E2 σ := by
  intro x2 h2 ha o ho
  obtain ⟨x1, h1, e1, e2, e3⟩ := h x2 h2
  rw [← stepW_congr (e3 o ho), ← e2]
  exact hl x1 h1 (by rw [e1]; exact ha) o (by rw [e1]; exact ho)

theorem likePast_cons {E1 E2 : List (Nat × Env × AV)} (h : likePast ops E1 E2) (x : Nat × Env × AV) : likePast ops (x :: E1) (x :: E2) := by
  intro x2 h2
  rcases List.mem_cons.1 h2 with rfl | h2
  · exact ⟨x2, by simp, rfl, rfl, fun _ _ _ _ => rfl⟩
  · obtain ⟨x1, h1, e⟩ := h x2 h2; exact ⟨x1, List.mem_cons_of_mem _ h1, e⟩

theorem awpD_like : ∀ (R : List Nat) {E1 E2 : List (Nat × Env × AV)} {τ : Env} {σ : AST} {K : Env → AST → Prop}, likePast ops E1 E2 → awpD P ops R E1 τ σ K → awpD P ops R E2 τ σ K
  | [], _, _, _, _, _, _, h => h
  | i :: R, E1, E2, τ, σ, K, hE, h => by
    simp only [awpD] at h ⊢
    split at h
    · exact h.elim
    · split at h
      · rename_i he
        rw [if_pos he]
        exact stepW_mono (fun v σ' hh => ⟨lateW_like hE hh.1, fun hv => awpD_like R hE (hh.2 hv)⟩) h
      · rename_i he
        rw [if_neg he]
        exact stepW_mono (fun v σ' hh hv => awpD_like R (likePast_cons hE _) (hh hv)) h

theorem likePast_tail (E : List (Nat × Env × AV)) (x : Nat × Env × AV) : likePast ops (x :: E) E := fun y hy => ⟨y, List.mem_cons_of_mem _ hy, rfl, rfl, fun _ _ _ _ => rfl⟩

theorem putO_comm {τ : Env} {x y : Option Nat} (u v : AV) (h : ∀ d, x = some d → y ≠ some d) : (τ.putO x u).putO y v = (τ.putO y v).putO x u := by
  cases x with
  | none => rfl
  | some d =>
    cases y with
    | none => rfl
    | some e =>
      have hne : d ≠ e := fun he => h d rfl (he ▸ rfl)
      funext t
      simp only [Env.putO, Env.put]
      by_cases h1 : t = e
      · subst h1; rw [if_pos rfl, if_neg (fun q => hne q.symm), if_pos rfl]
      · rw [if_neg h1, if_neg h1]

theorem putO_looks {τ : Env} {d : Option Nat} {v : AV} {t : Nat} (h : ∀ k, d = some k → k ≠ t) : τ.putO d v t = τ t := by
  cases d with
  | none => rfl
  | some k => simp only [Env.putO, Env.put]; rw [if_neg (fun e => h k rfl e.symm)]

def Good (n : Nat) (τ : Env) (σ : AST) : Prop := ∃ (g : G) (w : World) (a : Act), Inv g σ w ∧ relE g w τ a.tmps ∧ a.tmps.size = n

theorem Good.len {n : Nat} {τ : Env} (h : Good n τ σ) (t : Nat) : lenOk (τ t) := by obtain ⟨g, w, a, _, hr, _⟩ := h; exact lenOk_of (hr t)

theorem size_put (a : Act) (d : Option Nat) (v : Value) : (a.put d v).tmps.size = a.tmps.size := by cases d <;> simp [Act.put]

theorem Good.step {n : Nat} {τ : Env} {o : Oper} {v : AV} (h : Good n τ σ) (hd : ∀ k, o.dst = some k → k < n) (hs : stepW P ops o τ σ fun v' σ' => v' = v ∧ σ' = σ) : Good n (τ.putO o.dst v) σ := by
  obtain ⟨g, w, a, hI, hr, hn⟩ := h
  have key := step_sound (r := none) (Q := fun _ _ _ => False) (next := fun _ _ => Good n (τ.putO o.dst v) σ) (a := a) hI hr hs (fun g' w' v' x σ' hE hI' hv hk => by
    obtain ⟨rfl, rfl⟩ := hk
    exact ⟨g', w', a.put o.dst x, hI', relE_put (relE_mono hE hr) (fun k hk => by rw [hn]; exact hd k hk) hv, by rw [size_put, hn]⟩)
  split at key
  · have key := key.2
    generalize (o.semAt (FR none).round a.eval).run P w = r at key
    cases r with
    | ok nx w' =>
      cases nx <;> simp only [Oper.uponIn] at key <;> first
        | exact key
        | (obtain ⟨e, w2, fr, hR, _⟩ := key.2.2 [] (fun _ h => by simp at h)
           cases e with
           | returned v => exact hR
           | panicked c => exact hR.elim
           | outgrown => obtain ⟨_, _, hf⟩ := hR; exact hf.elim)
        | (obtain ⟨v, w2, hR, _⟩ := key.2 default [] (fun _ h => by simp at h); exact hR)
        | (obtain ⟨e, w2, hR, _⟩ := key.2.2 default [] (fun _ h => by simp at h)
           cases e with
           | returned v => exact hR
           | panicked c => exact hR.elim
           | outgrown => obtain ⟨_, _, hf⟩ := hR; exact hf.elim)
        | exact key.elim
    | halt x w' => cases x <;> simp only [Oper.uponIn] at key
  · exact key.2

end Go.Aff

namespace Go.Aff

variable {g g' : G} {w w' : World} {σ σ' : AST} {P : Program} {ops : Array Oper}

theorem awpD_front {n : Nat} {i : Nat} {oi : Oper} (hi : ops[i]? = some oi) (hdst : ∀ (j : Nat) o, ops[j]? = some o → ∀ k, o.dst = some k → k < n) {B : List Nat} {K : Env → AST → Prop} :
    ∀ (A : List Nat) (past : List (Nat × Env × AV)) (τ : Env) (σ : AST), (∀ a ∈ A, ∃ o, ops[a]? = some o ∧ effO P o = false ∧ o.apart ops oi = true ∧ ahead (anc ops) i a = false) → Good n τ σ → awpD P ops (A ++ i :: B) past τ σ K →
      stepW P ops oi τ σ fun v σ' => (effO P oi = true → lateW P ops i past σ') ∧ (effO P oi = false → σ' = σ) ∧ ((∀ t, lenOk ((τ.putO oi.dst v) t)) → awpD P ops (A ++ B) past (τ.putO oi.dst v) σ' K)
  | [], past, τ, σ, _, hG, h => by
    simp only [List.nil_append, awpD, hi] at h
    cases he : effO P oi with
    | true =>
      rw [he] at h
      exact stepW_mono (fun v σ' hh => ⟨fun _ => hh.1, (fun q => by cases q), hh.2⟩) h
    | false =>
      rw [he] at h
      simp only [Bool.false_eq_true, if_false] at h
      obtain ⟨v, hv, hk⟩ := stepW_det hG.len he h
      exact hk _ ⟨(fun q => by cases q), fun _ => rfl, fun hlv => awpD_like B (likePast_tail past _) (hv hlv)⟩
  | a :: A, past, τ, σ, hA, hG, h => by
    obtain ⟨oa, hoa, hea, hap, hah⟩ := hA a (by simp)
    obtain ⟨ap1, ap2, ap3⟩ := Oper.apart_spec hap
    simp only [List.cons_append, awpD, hoa, hea] at h
    simp only [Bool.false_eq_true, if_false] at h
    obtain ⟨va, hva, hka⟩ := stepW_det hG.len hea h
    have heq : stepW P ops oa τ σ fun v' σ'' => v' = va ∧ σ'' = σ := hka _ ⟨rfl, rfl⟩
    have hG' : Good n (τ.putO oa.dst va) σ := hG.step (hdst a oa hoa) heq
    have ih := awpD_front hi hdst A ((a, τ, va) :: past) (τ.putO oa.dst va) σ (fun x hx => hA x (by simp [hx])) hG' (hva hG'.len)
    have hcong : ∀ K', stepW P ops oi (τ.putO oa.dst va) σ K' = stepW P ops oi τ σ K' := fun K' => stepW_congr fun t ht => putO_looks fun k hk e => ap1 k hk (e ▸ ht)
    rw [hcong] at ih
    refine stepW_mono (fun v σ' hh => ?_) ih
    obtain ⟨hlate, hpure, hrest⟩ := hh
    refine ⟨fun q x hx => hlate q x (List.mem_cons_of_mem _ hx), hpure, fun hlv => ?_⟩
    -- the deferred operation still comes to the same
    have hval : stepW P ops oa τ σ' fun v' σ'' => v' = va ∧ σ'' = σ' := by
      cases he : effO P oi with
      | true => exact hlate he (a, τ, va) (by simp) hah oa hoa
      | false => rw [hpure he]; exact heq
    have hcong2 : stepW P ops oa τ σ' (fun v' σ'' => v' = va ∧ σ'' = σ') = stepW P ops oa (τ.putO oi.dst v) σ' (fun v' σ'' => v' = va ∧ σ'' = σ') :=
      stepW_congr fun t ht => (putO_looks fun k hk e => ap3 k hk (e ▸ ht)).symm
    rw [hcong2] at hval
    simp only [List.cons_append, awpD, hoa, hea]
    simp only [Bool.false_eq_true, if_false]
    refine stepW_mono (fun v' σ'' hh _ => ?_) hval
    obtain ⟨rfl, rfl⟩ := hh
    rename_i hlv2
    rw [putO_comm _ _ fun d hd e => ap2 d e hd]
    rw [putO_comm _ _ fun d hd e => ap2 d e hd] at hlv2
    replace hrest := hrest hlv2
    refine awpD_like _ ?_ hrest
    intro x2 h2
    rcases List.mem_cons.1 h2 with rfl | h2
    · refine ⟨(a, τ, v'), by simp, rfl, rfl, fun o ho t ht => ?_⟩
      rw [hoa] at ho; cases ho
      exact (putO_looks fun k hk e => ap3 k hk (e ▸ ht)).symm
    · exact ⟨x2, List.mem_cons_of_mem _ h2, rfl, rfl, fun _ _ _ _ => rfl⟩

theorem getD_set {listed : Array Bool} {i j : Nat} {b : Bool} (hi : i < listed.size) : (listed.setIfInBounds i true).getD j b = if j = i then true else listed.getD j b := by
  simp only [Array.getD, Array.size_setIfInBounds]
  split
  · rename_i hlt
    simp only [Array.getInternal_eq_getElem, Array.getElem_setIfInBounds hlt]
    by_cases e : i = j
    · subst e; simp
    · rw [if_neg e, if_neg (fun q => e q.symm)]
  · rename_i hlt
    rw [if_neg (by rintro rfl; omega)]

theorem pairsOk_spec {b : List Nat} : ∀ {A : List Nat} {i : Nat} {B : List Nat}, pairsOk P ops b (A ++ i :: B) = true → (∀ a ∈ A, pairOk P ops b a i = true) ∧ pairsOk P ops b (A ++ B) = true
  | [], i, B, h => by simp only [List.nil_append, pairsOk, Bool.and_eq_true] at h; exact ⟨fun a ha => by simp at ha, h.2⟩
  | a :: A, i, B, h => by
    simp only [List.cons_append, pairsOk, Bool.and_eq_true, List.all_eq_true] at h
    obtain ⟨h1, h2⟩ := h
    obtain ⟨h3, h4⟩ := pairsOk_spec h2
    refine ⟨fun x hx => ?_, ?_⟩
    · rcases List.mem_cons.1 hx with rfl | hx
      · exact h1 i (by simp)
      · exact h3 x hx
    · simp only [List.cons_append, pairsOk, Bool.and_eq_true, List.all_eq_true]
      refine ⟨fun y hy => h1 y ?_, h4⟩
      simp only [List.mem_append, List.mem_cons] at hy ⊢
      rcases hy with hy | hy
      · exact .inl hy
      · exact .inr (.inr hy)

def Lift (n : Nat) (g0 : G) (w0 : World) (ds : List Deferred) (Q : Exit → Env → AST → Prop) : Exit → Act → World → Prop := fun e a w =>
  ∃ g τ σ, Ev g0 w0 g w ∧ Inv g σ w ∧ relE g w τ a.tmps ∧ a.tmps.size = n ∧ a.defers = ds ∧ Q e τ σ

theorem put_defers (a : Act) (d : Option Nat) (v : Value) : (a.put d v).defers = a.defers := by cases d <;> rfl

theorem any_sound {r : Option Nat} {n : Nat} {g0 : G} {w0 : World} {ds : List Deferred} {Q : Exit → Env → AST → Prop} {K : Env → AST → Prop} (hK : ∀ τ σ, K τ σ → Q .normal τ σ) (hdst : ∀ (j : Nat) o, ops[j]? = some o → ∀ k, o.dst = some k → k < n) (hedge : edgesOk ops = true) :
    ∀ (fuel : Nat) (listed : Array Bool) (R : List Nat) (g : G) (w : World) (a : Act) (τ : Env) (σ : AST), listed.size = ops.size → (∀ i, i ∈ R ↔ i < ops.size ∧ listed.getD i true = false) → R.Nodup → pairsOk P ops (anc ops) R = true → (∀ i, i < ops.size → ahead (anc ops) i i = false) →
      (∀ y, y < ops.size → listed.getD y false = true → ∀ x, ahead (anc ops) y x = true → listed.getD x false = true) → R.length ≤ fuel →
      awpD P ops R [] τ σ K → Ev g0 w0 g w → Inv g σ w → relE g w τ a.tmps → a.tmps.size = n → a.defers = ds → wpAnyIn (FR r) 0 P .any ops (Lift n g0 w0 ds Q) fuel listed a w := by
  intro fuel
  have getD_tf : ∀ {listed : Array Bool} {i : Nat}, i < listed.size → listed.getD i true = listed.getD i false := by
    intro listed i h; simp [Array.getD, h]
  have edges : ∀ {y : Nat} {o : Oper} {e : Edge}, ops[y]? = some o → e ∈ o.after.toList → Region.binds .any e = true → e.on < ops.size := by
    intro y o e ho he hb
    unfold edgesOk at hedge
    rw [Array.all_eq_true] at hedge
    obtain ⟨hy, rfl⟩ := Array.getElem?_eq_some_iff.1 ho
    have h1 := hedge y hy
    rw [Array.all_eq_true] at h1
    obtain ⟨k, hk, rfl⟩ := List.mem_iff_getElem.1 he
    have h2 := h1 k (by simpa using hk)
    simp only [Array.getElem_toList] at hb
    rw [hb] at h2
    simpa using h2
  have ready_spec : ∀ {listed : Array Bool} {i : Nat}, listed.size = ops.size → (i ∈ Region.ready .any ops listed ↔ i < ops.size ∧ listed.getD i true = false ∧ ∀ o, ops[i]? = some o → ∀ e ∈ o.after.toList, Region.binds .any e = true → listed.getD e.on false = true) := by
    intro listed i hsz
    unfold Region.ready
    simp only [List.mem_filter, List.mem_range, Bool.and_eq_true, Bool.not_eq_true']
    constructor
    · rintro ⟨h1, h2, h3⟩
      refine ⟨h1, h2, fun o ho e he hb => ?_⟩
      rw [ho] at h3
      simp only [Option.map_some, Option.getD_some] at h3
      rw [Array.all_eq_true] at h3
      obtain ⟨k, hk, rfl⟩ := List.mem_iff_getElem.1 he
      have := h3 k (by simpa using hk)
      simp only [Array.getElem_toList] at hb ⊢
      rw [hb] at this
      simpa using this
    · rintro ⟨h1, h2, h3⟩
      refine ⟨h1, h2, ?_⟩
      rw [Array.getElem?_eq_getElem h1]
      simp only [Option.map_some, Option.getD_some]
      rw [Array.all_eq_true]
      intro k hk
      have := h3 _ (Array.getElem?_eq_getElem h1) ops[i].after[k] (by simp)
      cases hb : Region.binds .any ops[i].after[k] with
      | false => rfl
      | true => simpa using this hb
  -- what stands ahead of a ready operation has been listed
  have ahead_listed : ∀ {listed : Array Bool}, listed.size = ops.size → (∀ y, y < ops.size → listed.getD y false = true → ∀ x, ahead (anc ops) y x = true → listed.getD x false = true) → ∀ {i x : Nat}, i ∈ Region.ready .any ops listed → ahead (anc ops) i x = true → listed.getD x false = true := by
    intro listed hsz hcl i x hi hx
    obtain ⟨o, ho, e, he, hb, hh⟩ := anc_bit hx
    have h1 := ((ready_spec hsz).1 hi).2.2 o ho e he hb
    rcases hh with rfl | hh
    · exact h1
    · exact hcl e.on (edges ho he hb) h1 x hh
  have none_ready : ∀ {listed : Array Bool} {R : List Nat}, listed.size = ops.size → (∀ i, i ∈ R ↔ i < ops.size ∧ listed.getD i true = false) → pairsOk P ops (anc ops) R = true → (∀ i, i < ops.size → ahead (anc ops) i i = false) → Region.ready .any ops listed = [] → R = [] := by
    intro listed R hsz hR hp hself hr
    cases R with
    | nil => rfl
    | cons r R =>
      exfalso
      have hr1 := (hR r).1 (by simp)
      have : r ∈ Region.ready .any ops listed := by
        rw [ready_spec hsz]
        refine ⟨hr1.1, hr1.2, fun o ho e he hb => ?_⟩
        cases hl : listed.getD e.on false with
        | true => rfl
        | false =>
          exfalso
          have hlt := edges ho he hb
          have hmem : e.on ∈ r :: R := (hR _).2 ⟨hlt, by rw [getD_tf (by rw [hsz]; exact hlt)]; exact hl⟩
          have hah : ahead (anc ops) r e.on = true := anc_edge ho he hb
          rcases List.mem_cons.1 hmem with heq | hmem
          · rw [heq, hself r hr1.1] at hah; cases hah
          · simp only [pairsOk, Bool.and_eq_true, List.all_eq_true] at hp
            have := hp.1 _ hmem
            unfold pairOk at this
            rw [hah] at this
            simp at this
      rw [hr] at this; simp at this
  induction fuel with
  | zero =>
    intro listed R g w a τ σ hsz hR hnd hp hself hcl hlen h hE hI hr hn hd
    have hR0 : R = [] := List.eq_nil_of_length_eq_zero (by omega)
    subst hR0
    refine ⟨?_, g, τ, σ, hE, hI, hr, hn, hd, hK _ _ h⟩
    apply List.eq_nil_iff_forall_not_mem.2
    intro i hi
    have h1 := (ready_spec hsz).1 hi
    have := (hR i).2 ⟨h1.1, h1.2.1⟩
    simp at this
  | succ fuel ih =>
    intro listed R g w a τ σ hsz hR hnd hp hself hcl hlen h hE hI hr hn hd
    refine ⟨fun hrd => ?_, fun i hi => ?_⟩
    · have hR0 := none_ready hsz hR hp hself hrd
      subst hR0
      exact ⟨g, τ, σ, hE, hI, hr, hn, hd, hK _ _ h⟩
    · have h1 := (ready_spec hsz).1 hi
      have hmem := (hR i).2 ⟨h1.1, h1.2.1⟩
      obtain ⟨A, B, rfl⟩ := List.append_of_mem hmem
      obtain ⟨hpa, hpr⟩ := pairsOk_spec hp
      obtain ⟨oi, hoi⟩ : ∃ o, ops[i]? = some o := ⟨_, Array.getElem?_eq_getElem h1.1⟩
      have hA : ∀ x ∈ A, ∃ o, ops[x]? = some o ∧ effO P o = false ∧ o.apart ops oi = true ∧ ahead (anc ops) i x = false := by
        intro x hx
        have hxR := (hR x).1 (by simp [hx])
        have hnot : ahead (anc ops) i x = false := by
          cases hb : ahead (anc ops) i x with
          | false => rfl
          | true =>
            have := ahead_listed hsz hcl hi hb
            rw [getD_tf (by rw [hsz]; exact hxR.1), this] at hxR
            cases hxR.2
        obtain ⟨ox, hox⟩ : ∃ o, ops[x]? = some o := ⟨_, Array.getElem?_eq_getElem hxR.1⟩
        have hpx := hpa x hx
        unfold pairOk at hpx
        rw [hnot, hox, hoi] at hpx
        simp only [Bool.false_or, Bool.and_eq_true, Bool.not_eq_true'] at hpx
        exact ⟨ox, hox, hpx.2.2, hpx.2.1, hnot⟩
      have hfront := awpD_front (n := n) hoi hdst A [] τ σ hA ⟨g, w, a, hI, hr, hn⟩ h
      unfold wpOpIn
      rw [hoi]
      simp only
      have hnd' : (A ++ B).Nodup := by
        rw [List.nodup_append] at hnd ⊢
        obtain ⟨n1, n2, n3⟩ := hnd
        exact ⟨n1, (List.nodup_cons.1 n2).2, fun x hx y hy => n3 x hx y (List.mem_cons_of_mem _ hy)⟩
      have hi_not : i ∉ A ++ B := by
        rw [List.nodup_append] at hnd
        obtain ⟨n1, n2, n3⟩ := hnd
        intro hm
        rcases List.mem_append.1 hm with hm | hm
        · exact n3 i hm i (by simp) rfl
        · exact (List.nodup_cons.1 n2).1 hm
      have next : ∀ (g' : G) (w' : World) (v : AV) (x : Value) (σ' : AST), Ev g w g' w' → Inv g' σ' w' → relV g' w' v x → awpD P ops (A ++ B) [] (τ.putO oi.dst v) σ' K → wpAnyIn (FR r) 0 P .any ops (Lift n g0 w0 ds Q) fuel (listed.setIfInBounds i true) (a.put oi.dst x) w' := by
        intro g' w' v x σ' hE' hI' hv hh
        refine ih (listed.setIfInBounds i true) (A ++ B) g' w' _ _ σ' (by simp [hsz]) ?_ hnd' hpr hself ?_ (by simp at hlen ⊢; omega) hh (hE.trans hE') hI' (relE_put (relE_mono hE' hr) (fun k hk => by rw [hn]; exact hdst i oi hoi k hk) hv) (by rw [size_put, hn]) (by rw [put_defers, hd])
        · intro j
          rw [getD_set (by rw [hsz]; exact h1.1)]
          by_cases hj : j = i
          · subst hj
            simp only [if_true]
            exact ⟨fun hm => absurd hm hi_not, fun hm => by cases hm.2⟩
          · rw [if_neg hj, ← hR j]
            simp only [List.mem_append, List.mem_cons]
            constructor
            · rintro (h | h)
              · exact .inl h
              · exact .inr (.inr h)
            · rintro (h | h | h)
              · exact .inl h
              · exact absurd h hj
              · exact .inr h
        · intro y hy hly z hz
          rw [getD_set (by rw [hsz]; exact h1.1)] at hly ⊢
          by_cases hzi : z = i
          · rw [if_pos hzi]
          · rw [if_neg hzi]
            by_cases hyi : y = i
            · subst hyi; exact ahead_listed hsz hcl hi hz
            · rw [if_neg hyi] at hly; exact hcl y hy hly z hz
      have := step_sound (r := r) (Q := Lift n g0 w0 ds Q) (next := wpAnyIn (FR r) 0 P .any ops (Lift n g0 w0 ds Q) fuel (listed.setIfInBounds i true)) hI hr hfront (fun g' w' v x σ' hE' hI' hv hh => next g' w' v x σ' hE' hI' hv (hh.2.2 fun t => lenOk_of (relE_put (relE_mono hE' hr) (fun k hk => by rw [hn]; exact hdst i oi hoi k hk) hv t)))
      exact this

theorem region_draw_sound {r : Option Nat} {n id : Nat} {g : G} {w : World} {a : Act} {τ : Env} {σ : AST} {Q : Exit → Env → AST → Prop} (ord : List Nat) (hord : ordOk P ops ord = true) (hdst : ∀ (j : Nat) o, ops[j]? = some o → ∀ k, o.dst = some k → k < n)
    (hm : P.follows .mixedOrders = true) (h : awpD P ops ord [] τ σ (Q .normal)) (hI : Inv g σ w) (hr : relE g w τ a.tmps) (hn : a.tmps.size = n) :
    (Code.region id ops true).wpIn (FR r) 0 P (Lift n g w a.defers Q) a w := by
  unfold ordOk at hord
  simp only [Bool.and_eq_true, decide_eq_true_eq, List.all_eq_true] at hord
  obtain ⟨⟨⟨⟨⟨⟨h1, h2⟩, h3⟩, h4⟩, h5⟩, h6⟩, h7⟩ := hord
  have hmem : ∀ i, i < ops.size → i ∈ ord := fun i hi => by simpa using h7 i (List.mem_range.2 hi)
  have hself : ∀ i, i < ops.size → ahead (anc ops) i i = false := fun i hi => by simpa using h5 i (hmem i hi)
  have hrep : ∀ (i : Nat) (b : Bool), (Array.replicate ops.size false).getD i b = if i < ops.size then false else b := by
    intro i b
    by_cases hi : i < ops.size <;> simp [Array.getD, hi]
  refine wpIn_region_any hm ?_
  exact any_sound (fun _ _ h => h) hdst h6 ops.size _ ord g _ a τ σ (by simp) (fun i => by
      rw [hrep]
      constructor
      · intro hi; have := h2 i hi; simp [this]
      · rintro ⟨hi, _⟩; exact hmem i hi) h3 h4 hself (fun y hy hl => by rw [hrep, if_pos hy] at hl; cases hl) (by rw [h1]; exact Nat.le_refl _) h (ev_drew g w) (inv_drew hI) (relE_mono (ev_drew g w) hr) hn rfl

end Go.Aff

