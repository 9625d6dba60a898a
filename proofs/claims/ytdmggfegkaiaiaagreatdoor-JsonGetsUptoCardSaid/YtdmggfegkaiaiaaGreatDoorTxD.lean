/-
  Typed states: what an operation does to a typed state is what it does to what the state stands for; second part: all operations.
-/
import Derived.Test.YtdmggfegkaiaiaaGreatDoorTxC
namespace Go.Tx
open Go.Awp
set_option linter.unusedSectionVars false
variable [Inhabited GMem]
set_option linter.unusedSimpArgs false

section
variable {V : View}

/-- The calls of a program are what its contracts say. -/
def CallerOk (P : Program) (call : Caller V) : Prop := ∀ (A : Type) (fid : Nat) (args : List (TV V.N)) (S : TS V.N) (dst : Option Tmp) (k : TE V.N → Option A) (r : A), call A fid args S k = some r →
  ∃ te, k te = some r ∧ good S te ∧ ACall P fid (encL V S.len args) (encS V S).own? fun e' => ELe true e' (encE (S.app dst te).len te)

/-- What is to be shown of an operation. -/
def OpS (ex : Bool) (P : Program) (nm : Nat → Nat) {A : Type} (o : Oper) (S : TS V.N) (k : TE V.N → Option A) (r : A) : Prop :=
  ∃ te, k te = some r ∧ good S te ∧ AVal P nm o (ev (encS V S)) (encS V S).own? fun e' => ELe ex e' (encE (S.app o.dst te).len te)

theorem good_val (S : TS V.N) (v : TV V.N) (l : List Nat) : good S { val := v, acc := l } := fun m o h => by simp [gt] at h

theorem app_len_val (S : TS V.N) (dst : Option Tmp) (v : TV V.N) (l : List Nat) : (S.app dst { val := v, acc := l }).len = S.len := by
  funext n; rw [app_len]; rfl

theorem ele_val {ex : Bool} {S : TS V.N} {dst : Option Tmp} {v : TV V.N} {x : H} {l : List Nat} (h : H.le x (encV V S.len v)) (hx : ex = true → x = encV V S.len v) : ELe ex { val := x, acc := l } (encE (S.app dst { val := v, acc := l }).len { val := v, acc := l }) := by
  rw [app_len_val]
  exact { val := h, new := rfl, none := fun n _ => rfl, some := fun n o h => by simp [encE, gt] at h, eq := fun h => ⟨hx h, rfl, rfl⟩ }

theorem ele_eq {ex : Bool} {S : TS V.N} {dst : Option Tmp} {v : TV V.N} {x : H} {l : List Nat} (h : x = encV V S.len v) : ELe ex { val := x, acc := l } (encE (S.app dst { val := v, acc := l }).len { val := v, acc := l }) := ele_val (h ▸ H.le.refl _) fun _ => h

/-- An effect on one name or two. -/
theorem ele_upd {ex : Bool} {ω : Nat → Nat} {te : TE V.N} {e' : Eff} (hv : e'.val = encV V ω te.val) (hn : e'.new = te.new) (hu : e'.upd = te.upd.map fun p => (p.1, encO V ω p.2)) (ha : e'.acc = te.acc) : ELe ex e' (encE ω te) where
  val := by rw [hv]; exact H.le.refl _
  new := hn
  none := fun n h => by rw [hu]; exact h
  some := fun n o h => ⟨o, by rw [hu]; exact h, OLe.refl o⟩
  eq := fun _ => ⟨hv, hu, ha⟩

theorem tvc_enc (ω : Nat → Nat) (x : Value) : encV V ω (tvc x) = encRaw x := by
  cases x <;> simp [tvc, encV, encD, encRaw]

theorem map_ev (S : TS V.N) (l : List Operand) : l.map (ev (encS V S)) = encL V S.len (l.map (tev S)) := by
  rw [encL_map, List.map_map]
  exact List.map_congr_left fun x _ => ev_enc S x

theorem map_ev2 (S : TS V.N) (l : List (Nat × Operand)) : l.map (fun p => (p.1, ev (encS V S) p.2)) = (l.map fun p => (p.1, tev S p.2)).map fun p => (p.1, encV V S.len p.2) := by
  rw [List.map_map]
  exact List.map_congr_left fun x _ => by simp [ev_enc]

theorem bnd_sound {S : TS V.N} {lo : Option Operand} {d n : Int} (h : bndV V S lo d = some n) : bnd (ev (encS V S)) lo d = some n := by
  cases lo with
  | none => exact h
  | some x =>
    simp only [bndV] at h
    simp only [bnd, ev_enc]
    split at h
    · rename_i hx; rw [hx]; simpa [encV, encD] using h
    · cases h

theorem own_vec {S : TS V.N} {n : Nat} {te : TypeId} {e : Ty V.ι} {xs : List (den V.N e)} (h : S.own? n = some (.vec te e xs)) :
    (encS V S).own? n = some (.vec te (tsz V.sz e) (xs.map fun x => encR V.sz V.enc e x)) := by rw [encS_own?, h]; rfl

theorem bst_enc (ω : Nat → Nat) (i : V.ι) (x : V.N i) : encL V ω ((V.cells i x).map fun l => (.lf l.t l.x : TV V.N)) = (V.enc i x).map .d := by
  rw [V.enc_cells, encL_map, List.map_map, List.map_map]
  exact List.map_congr_left fun l _ => by simp [encV]

theorem own_boxC {S : TS V.N} {n : Nat} {cells : List (TV V.N)} (h : boxC V (S.own? n) = some cells) : (encS V S).own? n = some (.box (boxO V (S.own? n)) (encL V S.len cells)) := by
  rw [encS_own?]
  cases ho : S.own? n with
  | none => rw [ho] at h; cases h
  | some o =>
    rw [ho] at h
    cases o with
    | box oty cs => simp only [boxC, Option.some.injEq] at h; subst h; rfl
    | bst i x => simp only [boxC, Option.some.injEq] at h; subst h; simp only [Option.bind_some, encO, bst_enc]; rfl
    | vec te e xs => cases h
    | map tk tv es => cases h
    | iter s p => cases h
    | gone l => cases h

theorem boxC_len {S : TS V.N} {n : Nat} {cells : List (TV V.N)} (h : boxC V (S.own? n) = some cells) : S.len n = 0 := by
  unfold TS.len
  cases ho : S.own? n with
  | none => rfl
  | some o =>
    rw [ho] at h
    cases o <;> first | rfl | cases h

theorem boxOf_enc {ω : Nat → Nat} {v : TV V.N} {cs : List (TV V.N)} (h : TV.cells V v = some cs) : encO V ω (boxOf V v cs) = some (.box none (encL V ω cs)) := by
  unfold boxOf
  split
  · rename_i i x
    simp only [TV.cells, rcells, Option.some.injEq] at h
    subst h
    simp only [encO, bst_enc]
  · rfl

theorem reBox_enc {ω : Nat → Nat} {o : Option TypeId} {v : TV V.N} {cs : List (TV V.N)} (h : TV.cells V v = some cs) : encO V ω (reBox V o v cs) = some (.box o (encL V ω cs)) := by
  cases o with
  | none => exact boxOf_enc h
  | some t => rfl

theorem boxOf_len {v : TV V.N} {cs : List (TV V.N)} : TO.len (some (boxOf V v cs)) = 0 := by
  unfold boxOf
  split <;> rfl

theorem reBox_len {o : Option TypeId} {v : TV V.N} {cs : List (TV V.N)} : TO.len (some (reBox V o v cs)) = 0 := by
  cases o with
  | none => exact boxOf_len
  | some t => rfl

theorem own_box {S : TS V.N} {n : Nat} {oty : Option TypeId} {cells : List (TV V.N)} (h : S.own? n = some (.box oty cells)) : (encS V S).own? n = some (.box oty (encL V S.len cells)) := by rw [encS_own?, h]; rfl

theorem len_vec {S : TS V.N} {n : Nat} {te : TypeId} {e : Ty V.ι} {xs : List (den V.N e)} (h : S.own? n = some (.vec te e xs)) : S.len n = xs.length := by unfold TS.len; rw [h]; rfl

theorem raw_one {t : Ty V.ι} {x : den V.N t} : ((encR V.sz V.enc t x).all D.one) = true := by
  rw [encR_cells, List.all_map, List.all_eq_true]
  exact fun l hl => by have := encD_cell (V := V) (rcells_cell t x l hl); simpa [H.one] using this

variable {P : Program} {nm : Nat → Nat} {call : Caller V} {A : Type} {S : TS V.N} {k : TE V.N → Option A} {r : A} {o : Oper} {ex : Bool}

/-- The value alone turns. -/
theorem ops_val {v : TV V.N} {l : List Nat} (hk : k { val := v, acc := l } = some r) (h : ∀ K : Eff → Prop, K { val := encV V S.len v, acc := l } → AVal P nm o (ev (encS V S)) (encS V S).own? K) : OpS ex P nm o S k r :=
  ⟨_, hk, good_val S v l, h _ (ele_eq rfl)⟩

theorem ops_le {v : TV V.N} {l : List Nat} (hk : k { val := v, acc := l } = some r) (h : ∀ K : Eff → Prop, (∀ x, H.le x (encV V S.len v) → (ex = true → x = encV V S.len v) → K { val := x, acc := l }) → AVal P nm o (ev (encS V S)) (encS V S).own? K) : OpS ex P nm o S k r :=
  ⟨_, hk, good_val S v l, h _ fun _ hx hy => ele_val hx hy⟩

theorem zip_zero (S : TS V.N) (dst : Option Tmp) (d : Nat) (v : TV V.N) (b : TO V.N) (cs : List (TV V.N)) (hf : ∀ n, TV.hasL n cs = true → n ≠ d) :
    encL V (S.app dst { val := v, upd := [(d, b)], new := [d] }).len cs = encL V S.len cs := by
  refine encL_congr cs fun n hn => ?_
  rw [app_len]
  simp only [gt_cons]
  rw [if_neg (fun e => hf n hn e.symm)]
  rfl


theorem tev_fresh {S : TS V.N} {d : Nat} (h : S.fresh d = true) (x : Operand) : TV.has d (tev S x) = false := by
  cases x with
  | tmp t =>
    simp only [tev, TS.get]
    cases hg : gt S.tmps t with
    | none => simp [TV.has]
    | some v => exact fresh_tmp h hg
  | const v => cases v <;> simp [tev, tvc, TV.has]
  | global g => simp [tev, TV.has]
  | func f => simp [tev, TV.has, TV.hasL]

theorem hasL_false {d : Nat} {l : List (TV V.N)} (h : ∀ x ∈ l, TV.has d x = false) : TV.hasL d l = false := by
  induction l with
  | nil => simp [TV.hasL]
  | cons y r ih => rw [TV.hasL, h y List.mem_cons_self, ih fun x hx => h x (List.mem_cons_of_mem _ hx)]; rfl

theorem hasL_mem {d : Nat} {l : List (TV V.N)} (h : TV.hasL d l = false) : ∀ x ∈ l, TV.has d x = false := by
  induction l with
  | nil => intro x hx; cases hx
  | cons y r ih =>
    rw [TV.hasL, Bool.or_eq_false_iff] at h
    intro x hx
    rcases List.mem_cons.1 hx with rfl | hx
    · exact h.1
    · exact ih h.2 x hx

theorem cells_fresh {d : Nat} {v : TV V.N} {cs : List (TV V.N)} (h : TV.cells V v = some cs) (hv : TV.has d v = false) : TV.hasL d cs = false := by
  cases v with
  | lf t x =>
    simp only [TV.cells, Option.some.injEq] at h
    subst h
    exact hasL_false fun y hy => by
      obtain ⟨l, _, rfl⟩ := List.mem_map.1 hy
      simp [TV.has]
  | raw v =>
    simp only [TV.cells] at h
    split at h
    · simp at h; subst h; simp [TV.hasL, TV.has]
    · cases h
  | agg cs' => simp only [TV.cells, Option.some.injEq] at h; subst h; simpa [TV.has] using hv
  | tup vs => simp [TV.cells] at h
  | junk => simp [TV.cells] at h
  | rp t x off => simp [TV.cells] at h; subst h; simp [TV.hasL, TV.has]
  | bp n off => simp [TV.cells] at h; subst h; simpa [TV.hasL] using hv
  | vh n => simp [TV.cells] at h; subst h; simpa [TV.hasL] using hv
  | ep n s i off => simp [TV.cells] at h; subst h; simpa [TV.hasL] using hv
  | mp n => simp [TV.cells] at h; subst h; simpa [TV.hasL] using hv
  | np n b => simp [TV.cells] at h; subst h; simpa [TV.hasL] using hv
  | sd n => simp [TV.cells] at h; subst h; simpa [TV.hasL] using hv
  | fn f a b => simp [TV.cells] at h; subst h; simpa [TV.hasL] using hv

/-- A new box. -/
theorem ops_box {d : Nat} {b : TO V.N} {oty : Option TypeId} {cs : List (TV V.N)} (hb : ∀ ω, encO V ω b = some (.box oty (encL V ω cs))) (hk : k { val := .bp (nm d) 0, upd := [(nm d, b)], new := [nm d] } = some r) (hf : TV.hasL (nm d) cs = false)
    (h : ∀ K : Eff → Prop, K { val := .bp (nm d) 0, acc := [], upd := [(nm d, some (.box oty (encL V S.len cs)))], new := [nm d] } → AVal P nm o (ev (encS V S)) (encS V S).own? K) : OpS ex P nm o S k r := by
  refine ⟨_, hk, fun m o hm => ?_, h _ (ele_upd (by simp [encV]) rfl ?_ rfl)⟩
  · simp only [gt_cons] at hm
    split at hm
    · rename_i e; left; simp [e]
    · simp [gt] at hm
  · simp only [List.map_cons, List.map_nil, hb]
    rw [zip_zero S o.dst (nm d) (.bp (nm d) 0) b cs fun n hn e => by subst e; rw [hf] at hn; cases hn]

/-- What is owned under a name turns, and stays as long. -/
theorem ops_own {n : Nat} {o' : TO V.N} (hk : k { val := .junk, acc := [n], upd := [(n, o')] } = some r) (hl : TO.len (some o') = S.len n)
    (h : ∀ K : Eff → Prop, K { val := .junk, acc := [n], upd := [(n, encO V S.len o')] } → AVal P nm o (ev (encS V S)) (encS V S).own? K) : OpS ex P nm o S k r := by
  have hlen : (S.app o.dst { val := .junk, acc := [n], upd := [(n, o')] }).len = S.len := by
    funext m
    rw [app_len]
    simp only [gt_cons]
    by_cases hm : n = m
    · subst hm; simpa using hl
    · rw [if_neg hm]; simp [gt]
  refine ⟨_, hk, fun m o hm => ?_, h _ (ele_upd (by simp [encV]) rfl ?_ rfl)⟩
  · simp only [gt_cons] at hm
    split at hm
    · rename_i e; simp at hm; subst hm; subst e; exact .inr hl
    · simp [gt] at hm
  · simp only [List.map_cons, List.map_nil]
    rw [hlen]

/-- A new slice, out of none or of an old one. -/
theorem ops_vec {d : Nat} {te : TypeId} {e : Ty V.ι} {ys : List (den V.N e)} {old : List (Nat × Nat)} {l : List Nat} (hold : ∀ p ∈ old, S.len p.1 = p.2) (hk : k { val := .vh (nm d), acc := l, upd := (nm d, .vec te e ys) :: old.map (fun p => (p.1, .gone p.2)), new := [nm d] } = some r)
    (h : ∀ K : Eff → Prop, K { val := .vh (nm d) ys.length, acc := l, upd := (nm d, some (.vec te (tsz V.sz e) (ys.map fun x => encR V.sz V.enc e x))) :: old.map (fun p => (p.1, none)), new := [nm d] } → AVal P nm o (ev (encS V S)) (encS V S).own? K) : OpS ex P nm o S k r := by
  refine ⟨_, hk, fun m o hm => ?_, h _ (ele_upd ?_ rfl ?_ rfl)⟩
  · simp only [gt_cons] at hm
    split at hm
    · rename_i e; left; simp [e]
    · right
      have := gt_mem hm
      obtain ⟨p, hp, he⟩ := List.mem_map.1 this
      simp only [Prod.mk.injEq] at he
      obtain ⟨rfl, rfl⟩ := he
      exact (hold p hp).symm
  · simp only [encV]
    rw [app_len]
    simp [gt_cons, TO.len]
  · simp [encO, List.map_map, Function.comp_def]

/-- What is owned under a name turns, and the value. -/
theorem ops_own' {n : Nat} {o' : TO V.N} {v : TV V.N} {dst : Option Tmp} (hl : TO.len (some o') = S.len n) : (S.app dst { val := v, acc := [n], upd := [(n, o')] }).len = S.len := by
  funext m
  rw [app_len]
  simp only [gt_cons]
  by_cases hm : n = m
  · subst hm; simpa using hl
  · rw [if_neg hm]; simp [gt]

theorem own_map {n : Nat} {tk tv : Ty V.ι} {es : List (den V.N tk × den V.N tv)} (h : S.own? n = some (.map tk tv es)) :
    (encS V S).own? n = some (.map (es.map fun p => (encK tk p.1, encD V.sz V.enc tv p.2))) := by rw [encS_own?, h]; rfl

theorem len_map {n : Nat} {tk tv : Ty V.ι} {es : List (den V.N tk × den V.N tv)} (h : S.own? n = some (.map tk tv es)) : S.len n = 0 := by unfold TS.len; rw [h]; rfl

theorem own_iter {n : Nat} {s : ByteArray} {p : Int} (h : S.own? n = some (.iter s p)) : (encS V S).own? n = some (.iter s p.toNat) := by rw [encS_own?, h]; rfl

theorem len_iter {n : Nat} {s : ByteArray} {p : Int} (h : S.own? n = some (.iter s p)) : S.len n = 0 := by unfold TS.len; rw [h]; rfl

/-- A new iterator. -/
theorem ops_newiter {d : Nat} {s : ByteArray} (hk : k { val := .bp (nm d) 0, upd := [(nm d, .iter s 0)], new := [nm d] } = some r)
    (h : ∀ K : Eff → Prop, K { val := .bp (nm d) 0, acc := [], upd := [(nm d, some (.iter s 0))], new := [nm d] } → AVal P nm o (ev (encS V S)) (encS V S).own? K) : OpS ex P nm o S k r := by
  refine ⟨_, hk, fun m o hm => ?_, h _ (ele_upd (by simp [encV]) rfl (by simp [encO]) rfl)⟩
  simp only [gt_cons] at hm
  split at hm
  · rename_i e; left; simp [e]
  · simp [gt] at hm

/-- What is owned goes; a value comes. -/
theorem ops_gone {n l : Nat} {v : TV V.N} (hv : ∀ ω ω' : Nat → Nat, encV V ω v = encV V ω' v) (hk : k { val := v, acc := [n], upd := [(n, .gone l)] } = some r) (hl : S.len n = l)
    (h : ∀ K : Eff → Prop, K { val := encV V S.len v, acc := [n], upd := [(n, none)] } → AVal P nm o (ev (encS V S)) (encS V S).own? K) : OpS ex P nm o S k r := by
  refine ⟨_, hk, fun m o hm => ?_, h _ (ele_upd (hv _ _) rfl (by simp [encO]) rfl)⟩
  simp only [gt_cons] at hm
  split at hm
  · rename_i e; right; simp at hm; subst hm; subst e; simp [TO.len, hl]
  · simp [gt] at hm

theorem intsD_row (ik : IntKind) : ∀ l : List Int, intsD ik (l.map (row1 ik)) = some l
  | [] => rfl
  | n :: r => by simp [row1, intsD, intsD_row ik r]

theorem intsD_enc (ik : IntKind) (l : List (den V.N (.int ik))) : intsD ik (l.map fun x => encR V.sz V.enc (.int ik) x) = some l := intsD_row ik l

theorem runesAt_len (s : ByteArray) : ∀ n i : Nat, (Bs.runesAt s n i).length ≤ n
  | 0, _ => Nat.le_refl _
  | n + 1, i => by
    unfold Bs.runesAt
    split
    · simp only [List.length_cons]; have := runesAt_len s n (i + (Utf8.decode s i).2); omega
    · simp

theorem runes_len (s : ByteArray) : (Bs.runes s).length ≤ s.size := runesAt_len s _ _

/-- A new map. -/
theorem ops_newmap {d : Nat} {tk tv : Ty V.ι} (hk : k { val := .mp (nm d), upd := [(nm d, .map tk tv [])], new := [nm d] } = some r)
    (h : ∀ K : Eff → Prop, K { val := .mp (nm d), acc := [], upd := [(nm d, some (.map []))], new := [nm d] } → AVal P nm o (ev (encS V S)) (encS V S).own? K) : OpS ex P nm o S k r := by
  refine ⟨_, hk, fun m o hm => ?_, h _ (ele_upd (by simp [encV]) rfl (by simp [encO]) rfl)⟩
  simp only [gt_cons] at hm
  split at hm
  · rename_i e; left; simp [e]
  · simp [gt] at hm

theorem key_same {tk : Ty V.ι} {kind : TypeDesc} (hk : kindOk (some kind) tk = true) (x y : den V.N tk) : Instr.sameNow kind (encK tk x) (encK tk y) = some (keq tk x y) := by
  cases kind <;> cases tk <;> simp_all [kindOk, encK, keq, Instr.sameNow, Mp.ieq, Mp.beq, Mp.seq]

theorem key_simple {tk : Ty V.ι} {kind : TypeDesc} (hk : kindOk (some kind) tk = true) : simpleKey kind = true := by
  cases kind <;> cases tk <;> simp_all [kindOk, simpleKey]

theorem key_enc {tk : Ty V.ι} {kind : TypeDesc} (hk : kindOk (some kind) tk = true) (x : den V.N tk) : encD V.sz V.enc tk x = .v (encK tk x) := by
  cases kind <;> cases tk <;> simp_all [kindOk, encK, encD]

theorem find_enc {tk tv : Ty V.ι} {kind : TypeDesc} (hk : kindOk (some kind) tk = true) (x : den V.N tk) : ∀ es : List (den V.N tk × den V.N tv),
    findM kind (encK tk x) (es.map fun p => (encK tk p.1, encD V.sz V.enc tv p.2)) = some ((Mp.get (keq tk) x es).map (encD V.sz V.enc tv))
  | [] => rfl
  | p :: r => by
    simp only [List.map_cons, findM, key_same hk, Mp.get]
    cases keq tk x p.1 with
    | true => rfl
    | false => exact find_enc hk x r

theorem set_enc {tk tv : Ty V.ι} {kind : TypeDesc} (hk : kindOk (some kind) tk = true) (x : den V.N tk) (y : den V.N tv) : ∀ es : List (den V.N tk × den V.N tv),
    setM kind (encK tk x) (encD V.sz V.enc tv y) (es.map fun p => (encK tk p.1, encD V.sz V.enc tv p.2)) = some ((Mp.set (keq tk) x y es).map fun p => (encK tk p.1, encD V.sz V.enc tv p.2))
  | [] => rfl
  | p :: r => by
    simp only [List.map_cons, setM, key_same hk, Mp.set]
    cases keq tk x p.1 with
    | true => rfl
    | false => simp only [set_enc hk x y r]; rfl

theorem valsOf_spec : ∀ {ds : List D} {z : List Value}, valsOf ds = some z → ds = z.map .v
  | [], z, h => by simp [valsOf] at h; subst h; rfl
  | .v x :: r, z, h => by
    simp only [valsOf] at h
    split at h
    · rename_i l hl
      simp at h; subst h
      rw [valsOf_spec hl]; rfl
    · cases h
  | .agg _ :: _, _, h => by simp [valsOf] at h
  | .sl _ _ :: _, _, h => by simp [valsOf] at h
  | .rp _ :: _, _, h => by simp [valsOf] at h

theorem some_bind {α β : Type} {x : Option α} {f : α → Option β} {r : β} (h : x >>= f = some r) : ∃ y, x = some y ∧ f y = some r := by
  cases x with
  | none => cases h
  | some y => exact ⟨y, rfl, h⟩

theorem if_some {c : Prop} [Decidable c] {β : Type} {x : Option β} {r : β} (h : (if c then x else none) = some r) : c ∧ x = some r := by
  split at h
  · exact ⟨‹_›, h⟩
  · cases h

theorem elemV_sound {ω : Nat → Nat} {e : Ty V.ι} {x : TV V.N} {y : den V.N e} (h : elemV V ex e x = some y) :
    ∃ cs ds, TV.cells V x = some cs ∧ encL V ω cs = ds.map H.d ∧ D.Les ds (encR V.sz V.enc e y) ∧ (ex = true → ds = encR V.sz V.enc e y) := by
  unfold elemV at h
  split at h
  · rename_i t z
    split at h
    · rename_i ht
      subst ht
      simp only [Option.some.injEq] at h; subst h
      refine ⟨_, encR V.sz V.enc t z, rfl, ?_, D.Les.refl _, fun _ => rfl⟩
      rw [encR_cells, encL_map, List.map_map, List.map_map]
      exact List.map_congr_left fun l _ => by simp [encV]
    · cases h
  · split at h
    · rename_i cs hcs
      obtain ⟨ds, e1, e2, e3⟩ := ofRow_sound (ω := ω) h
      exact ⟨cs, ds, hcs, e1, e2, e3⟩
    · cases h

theorem rowsV_sound {ω : Nat → Nat} {e : Ty V.ι} : ∀ {i : Nat} {parts : List (Nat × TV V.N)} {ys : List (den V.N e)}, rowsV V ex e i parts = some ys →
    ∃ rows, rowsOf (tsz V.sz e) i (parts.map fun p => (p.1, encV V ω p.2)) = some rows ∧ rows.length = parts.length ∧ D.Rows rows (ys.map fun x => encR V.sz V.enc e x) ∧ (ex = true → rows = ys.map fun x => encR V.sz V.enc e x)
  | i, [], ys, h => by simp [rowsV] at h; subst h; exact ⟨[], rfl, rfl, .nil, fun _ => rfl⟩
  | i, (j, x) :: r, ys, h => by
    simp only [rowsV] at h
    obtain ⟨hij, h⟩ := if_some h
    split at h
    · rename_i y ys' h1 h2
      simp at h; subst h
      obtain ⟨cs, ds, hcs, e1, e2, e3⟩ := elemV_sound (ω := ω) h1
      obtain ⟨rows, f1, f2, f3, f4⟩ := rowsV_sound (ω := ω) h2
      have hds : ds.length = tsz V.sz e := by rw [e2.len, encR_len]
      refine ⟨ds :: rows, ?_, by simp [f2], .cons e2 f3, fun hx => by simp [e3 hx, f4 hx]⟩
      simp only [List.map_cons, rowsOf, cells_sound (ω := ω) hcs, e1, allD_map, f1]
      rw [if_pos hij, if_pos hds]
    · cases h

end
end Go.Tx
