/-
  The logic of abstract states: regions that draw their order: what an operation does depends on what it looks at alone.
-/
import Derived.Test.YtdmggfegkaiaiaaGreatDoorAwpK
namespace Go.Awp
set_option linter.unusedSectionVars false
variable [Inhabited GMem]
set_option linter.unusedSimpArgs false

theorem AVal_ex {P : Program} {nm : Nat → Nat} {o : Oper} {ρ : Operand → H} {ω : Nat → Option Own} {k : Eff → Prop} (hv : AVal P nm o ρ ω k) : ∃ e, AVal P nm o ρ ω (fun e' => e' = e) ∧ k e := by
  unfold AVal at hv ⊢
  cases hop : o.op <;> simp only [hop, updM] at hv ⊢
  case buildSlice t len parts =>
    split at hv
    · rename_i e sz by_ ht
      try simp only [ht]
      split at hv
      · rename_i rows hr
        try simp only [hr]
        obtain ⟨hv1, hv2⟩ := hv
        split at hv2
        · rename_i d hd
          split at hv2
          · rename_i hn
            try simp only [hd, if_pos hn]
            exact ⟨_, ⟨hv1, rfl⟩, hv2⟩
          · rename_i hn
            try simp only [hd, if_neg hn]
            exact ⟨_, ⟨hv1, rfl⟩, hv2⟩
        · rename_i hd
          try simp only [hd]
          exact ⟨_, ⟨hv1, rfl⟩, hv2⟩
      · exact hv.elim
    · exact hv.elim
  all_goals
    first
    | exact ⟨_, rfl, hv⟩
    | ((repeat' split at hv) <;> first
      | exact hv.elim
      | exact ⟨_, rfl, hv⟩
      | exact ⟨_, ⟨hv.1, rfl⟩, hv.2⟩
      | (simp only [*]; exact ⟨_, rfl, hv⟩)
      | (simp only [*]; exact ⟨_, ⟨hv.1, rfl⟩, hv.2⟩)
      | (obtain ⟨own, r, own', h1, h2, h3⟩ := hv; exact ⟨_, ⟨own, r, own', h1, h2, rfl⟩, h3⟩))

theorem AVal_mono {P : Program} {nm : Nat → Nat} {o : Oper} {ρ : Operand → H} {ω : Nat → Option Own} {k k' : Eff → Prop} (h : ∀ e, k e → k' e) (hv : AVal P nm o ρ ω k) : AVal P nm o ρ ω k' := by
  unfold AVal at hv ⊢
  cases hop : o.op <;> simp only [hop, updM] at hv ⊢
  case buildSlice t len parts =>
    split at hv
    · rename_i e sz by_ ht
      try simp only [ht]
      split at hv
      · rename_i rows hr
        try simp only [hr]
        obtain ⟨hv1, hv2⟩ := hv
        split at hv2
        · rename_i d hd
          split at hv2
          · rename_i hn
            try simp only [hd, if_pos hn]
            exact ⟨hv1, h _ hv2⟩
          · rename_i hn
            try simp only [hd, if_neg hn]
            exact ⟨hv1, h _ hv2⟩
        · rename_i hd
          try simp only [hd]
          exact ⟨hv1, h _ hv2⟩
      · exact hv.elim
    · exact hv.elim
  all_goals
    first
    | exact h _ hv
    | ((repeat' split at hv) <;> first
      | exact hv.elim
      | exact h _ hv
      | exact ⟨hv.1, h _ hv.2⟩
      | (simp only [*]; exact h _ hv)
      | (simp only [*]; exact ⟨hv.1, h _ hv.2⟩)
      | (obtain ⟨own, r, own', h1, h2, h3⟩ := hv; exact ⟨own, r, own', h1, h2, h _ h3⟩))

theorem map_congr_ops {l : Array Operand} {ρ ρ' : Operand → H} (h : ∀ x ∈ l, ρ' x = ρ x) : l.toList.map ρ' = l.toList.map ρ :=
  List.map_congr_left fun x hx => h x (Array.mem_toList_iff.1 hx)

theorem map_congr_parts {l : Array (Nat × Operand)} {ρ ρ' : Operand → H} (h : ∀ x ∈ (l.toList.map (·.2)).toArray, ρ' x = ρ x) :
    l.toList.map (fun (p : Nat × Operand) => (p.1, ρ' p.2)) = l.toList.map (fun (p : Nat × Operand) => (p.1, ρ p.2)) :=
  List.map_congr_left fun x hx => by rw [h x.2 (by simpa using ⟨x.1, by simpa using hx⟩)]

theorem bnd_congr {ρ ρ' : Operand → H} {lo : Option Operand} {d : Int} (h : ∀ x ∈ lo.toArray, ρ' x = ρ x) : bnd ρ' lo d = bnd ρ lo d := by
  cases lo with
  | none => rfl
  | some x => simp only [bnd, h x (by simp)]

theorem AVal_congr {P : Program} {nm : Nat → Nat} {o : Oper} {ρ ρ' : Operand → H} {ω ω' : Nat → Option Own} {e : Eff} (hρ : ∀ x ∈ o.op.operands, ρ' x = ρ x) (hω : ∀ n ∈ e.acc, ω' n = ω n)
    (hv : AVal P nm o ρ ω (fun e' => e' = e)) : AVal P nm o ρ' ω' (fun e' => e' = e) := by
  unfold AVal at hv ⊢
  cases hop : o.op <;> simp only [hop, updM] at hv ⊢ <;> simp only [hop, Op.operands] at hρ
  case build => simp only [map_congr_parts hρ]; exact hv
  case buildSlice => simp only [map_congr_parts hρ]; exact hv
  case makeFunc fn first captured =>
    rw [map_congr_ops fun x hx => hρ x (by simp [hx]), map_congr_ops fun x hx => hρ x (by simp [hx])]; exact hv
  case slice t x lo hi mx =>
    have hx := hρ x (by simp)
    have hlo := fun d => bnd_congr (ρ := ρ) (ρ' := ρ') (lo := lo) (d := d) fun y hy => hρ y (by simp [hy])
    have hhi := fun d => bnd_congr (ρ := ρ) (ρ' := ρ') (lo := hi) (d := d) fun y hy => hρ y (by simp [hy])
    simp only [hx, hlo, hhi]
    (repeat' split at hv) <;> first
      | exact hv.elim
      | exact hv
      | (obtain ⟨hc1, rfl⟩ := hv; have hw := hω _ (List.mem_singleton.2 rfl); revert hc1; simp only [*, and_true, imp_self]; done)
  case makeMap t hint =>
    have : hintOk ρ' hint = hintOk ρ hint := by
      cases hint with
      | none => rfl
      | some x => simp only [hintOk, hρ x (by simp)]
    rw [this]; exact hv
  case call c =>
    cases hc : c.callee with
    | value f =>
      simp only [hc] at hv ⊢
      simp only [Call.operands, hc] at hρ
      rw [hρ f (by simp), map_congr_ops fun x hx => hρ x (by simp [hx])]
      split at hv
      · obtain ⟨own, r, own', h1, h2, rfl⟩ := hv
        exact ⟨own, r, own', h1, fun p hp => by rw [hω p.1 (List.mem_map_of_mem hp)]; exact h2 p hp, rfl⟩
      · exact hv
    | invoke r m => simp only [hc] at hv
    | builtin b =>
      simp only [hc] at hv ⊢
      simp only [Call.operands, hc] at hρ
      rw [map_congr_ops fun x hx => hρ x (by simpa using hx)]
      (repeat' split at hv) <;> first
        | exact hv.elim
        | exact hv
        | (simp only [*]; exact hv)
        | (obtain ⟨hc1, rfl⟩ := hv; have hw := hω _ (List.mem_singleton.2 rfl); revert hc1; simp only [*, and_true, imp_self]; done)
        | skip
  all_goals (try simp only [Array.mem_def, List.mem_cons, List.not_mem_nil, or_false, forall_eq_or_imp, forall_eq] at hρ)
  all_goals first
    | exact hv
    | (simp only [hρ]; first
      | exact hv
      | ((repeat' split at hv) <;> first
        | exact hv.elim
        | exact hv
        | (subst hv; have hw := hω _ (List.mem_singleton.2 rfl); simp only [*]; done)
        | (obtain ⟨hc1, rfl⟩ := hv; have hw := hω _ (List.mem_singleton.2 rfl); revert hc1; simp only [*, and_true, imp_self]; done)
        | (obtain ⟨hc1, rfl⟩ := hv; have hw := hω _ (List.mem_singleton.2 rfl); simp only [*, and_self]; done)))

end Go.Awp
