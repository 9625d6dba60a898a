/-
  The logic of abstract states: single operations are sound, fourth part: what makes no memory, and calls of builtins.
-/
import Derived.Test.YtdknkfioigcfiaaAwpF
namespace Go.Awp

theorem run_binInt {P : Program} {w : World} {op : BinOp} {t : TypeId} {k : IntKind} {x y : Int} {v : Value} (h : intBin op k x y = some v) :
    (binOp op t (.int k x) (.int k y)).run P w = .ok v w := by
  cases op <;> simp only [intBin, Option.some.injEq] at h <;> first | (subst h; simp [binOp, Op.intArith, Op.intCmp]; done) | cases h

theorem eqGuard_int {P : Program} {w : World} {op : BinOp} {t : TypeId} {x y : Operand} {k k' : IntKind} {a b : Int} : (eqGuard op t x y (.int k a) (.int k' b)).run P w = .ok () w := by
  unfold eqGuard; cases op <;> rfl
theorem eqGuard_bool {P : Program} {w : World} {op : BinOp} {t : TypeId} {x y : Operand} {a b : Bool} : (eqGuard op t x y (.bool a) (.bool b)).run P w = .ok () w := by
  unfold eqGuard; cases op <;> rfl
theorem eqGuard_string {P : Program} {w : World} {op : BinOp} {t : TypeId} {x y : Operand} {a b : ByteArray} : (eqGuard op t x y (.string a) (.string b)).run P w = .ok () w := by
  unfold eqGuard; cases op <;> rfl

theorem run_equalIn_bool {P : Program} {w : World} {t : TypeId} (d : Nat) (a b : Bool) (hu : P.underlying t = some .bool) : (Op.equalIn (d + 1) t (.bool a) (.bool b)).run P w = .ok (a == b) w := by
  simp only [Op.equalIn, Sem.run_bind, run_underlying hu, Result.andThen_ok]; rfl

theorem run_eql_bool' {P : Program} {w : World} {t : TypeId} {a b : Bool} (hu : P.underlying t = some .bool) : (binOp .eql t (.bool a) (.bool b)).run P w = .ok (.bool (a == b)) w := by
  have h := run_equalIn_bool (w := w) 9999 a b hu
  simp only [binOp, Op.equal, Op.maxDepth, Sem.run_bind, h, Result.andThen_ok]; rfl

theorem run_neq_bool' {P : Program} {w : World} {t : TypeId} {a b : Bool} (hu : P.underlying t = some .bool) : (binOp .neq t (.bool a) (.bool b)).run P w = .ok (.bool (!(a == b))) w := by
  have h := run_equalIn_bool (w := w) 9999 a b hu
  simp only [binOp, Op.equal, Op.maxDepth, Sem.run_bind, h, Result.andThen_ok]; rfl

theorem eqGuard_slice {P : Program} {w : World} {op : BinOp} {t : TypeId} {x y : Operand} {a b : Option Addr} {n c n' c' : Nat} : (eqGuard op t x y (.slice a n c) (.slice b n' c')).run P w = .ok () w := by
  unfold eqGuard; cases op <;> rfl

theorem run_equalIn_slice {P : Program} {w : World} {t : TypeId} (d : Nat) (a : Option Addr) (n c : Nat) (hu : isSl P t = true) : (Op.equalIn (d + 1) t (.slice a n c) (.slice none 0 0)).run P w = .ok a.isNone w := by
  unfold isSl at hu
  split at hu
  · rename_i e he
    cases a with
    | none => simp only [Op.equalIn, Sem.run_bind, run_underlying he, Result.andThen_ok]; rfl
    | some a => simp only [Op.equalIn, Sem.run_bind, run_underlying he, Result.andThen_ok]; rfl
  · cases hu

theorem run_eql_slice {P : Program} {w : World} {t : TypeId} {a : Option Addr} {n c : Nat} (hu : isSl P t = true) : (binOp .eql t (.slice a n c) (.slice none 0 0)).run P w = .ok (.bool a.isNone) w := by
  have h := run_equalIn_slice (w := w) 9999 a n c hu
  simp only [binOp, Op.equal, Op.maxDepth, Sem.run_bind, h, Result.andThen_ok]; rfl
theorem run_neq_slice {P : Program} {w : World} {t : TypeId} {a : Option Addr} {n c : Nat} (hu : isSl P t = true) : (binOp .neq t (.slice a n c) (.slice none 0 0)).run P w = .ok (.bool (!a.isNone)) w := by
  have h := run_equalIn_slice (w := w) 9999 a n c hu
  simp only [binOp, Op.equal, Op.maxDepth, Sem.run_bind, h, Result.andThen_ok]; rfl

section
variable {C : Ctx} {nm : Nat → Nat} {o : Oper} (hd : ∀ d, o.dst = some d → d < C.N)
include hd

theorem ok_binOp {op : BinOp} {t t' : TypeId} {x y : Operand} (ho : o.op = .binOp op t x y t') : OpOk C nm o := by
  intro E M S a w K Q k hs hv hK
  simp only [AVal, ho] at hv
  have hx := hs.ev x
  have hy := hs.ev y
  have fin : ∀ (va vb r : Value), a.eval x = va → a.eval y = vb → (eqGuard op t x y va vb).run C.P w = .ok () w → (binOp op t va vb).run C.P w = .ok r w → k { val := .d (.v r) } → o.wp C.P a w K Q := by
    intro va vb r h1 h2 h3 h5 hk
    refine wp_value (v := r) (w' := w) ?_ (hK _ _ _ _ _ hk (hs.app_val hd rfl (.d (.v r))))
    simp [execOp, ho, h1, h2, h3, h5]
  split at hv
  · rename_i kx m ky n hex hey
    rw [hex] at hx; rw [hey] at hy
    have hx := hx.dv; have hy := hy.dv
    split at hv
    · rename_i v hb
      obtain ⟨rfl, hv⟩ := hv
      exact fin _ _ v hx hy eqGuard_int (run_binInt hb) hv.2
    · split at hv
      · obtain ⟨⟨rfl, hz⟩, hv⟩ := hv
        exact fin _ _ _ hx hy eqGuard_int (by simp [binOp, Op.intDiv, hz]) hv.2
      · obtain ⟨⟨rfl, hz⟩, hv⟩ := hv
        exact fin _ _ _ hx hy eqGuard_int (by simp [binOp, Op.intDiv, hz]) hv.2
      · exact hv.elim
  · rename_i m n hex hey
    rw [hex] at hx; rw [hey] at hy
    have hx := hx.dv; have hy := hy.dv
    split at hv
    · obtain ⟨hu, hv⟩ := hv
      exact fin _ _ _ hx hy eqGuard_bool (run_eql_bool' hu) hv.2
    · obtain ⟨hu, hv⟩ := hv
      exact fin _ _ _ hx hy eqGuard_bool (run_neq_bool' hu) hv.2
    · exact hv.elim
  · rename_i m n hex hey
    rw [hex] at hx; rw [hey] at hy
    have hx := hx.dv; have hy := hy.dv
    split at hv
    · exact fin _ _ _ hx hy eqGuard_string (by simp [binOp, Op.stringOp]) hv.2
    · exact fin _ _ _ hx hy eqGuard_string (by simp [binOp, Op.stringOp]) hv.2
    · obtain ⟨hle, hv⟩ := hv
      refine fin _ _ _ hx hy eqGuard_string ?_ hv.2
      have h63 : ¬ (((m.size + n.size : Nat) : Int) > IntKind.i64.max) := by
        have : IntKind.i64.max = 9223372036854775807 := by decide
        rw [this]; omega
      simp only [binOp, Op.stringOp]
      rw [if_neg h63]
      rfl
    · exact hv.elim
  · rename_i ad n c hex hey
    rw [hex] at hx; rw [hey] at hy
    have hx := hx.dv; have hy := hy.dv
    split at hv
    · obtain ⟨hu, hv⟩ := hv
      exact fin _ _ _ hx hy eqGuard_slice (run_eql_slice hu) hv.2
    · obtain ⟨hu, hv⟩ := hv
      exact fin _ _ _ hx hy eqGuard_slice (run_neq_slice hu) hv.2
    · exact hv.elim
  · rename_i sz r rs hex hey
    rw [hex] at hx; rw [hey] at hy
    have hy := hy.dv
    obtain ⟨ad, n, c, hx⟩ : ∃ (ad : Addr) (n c : Nat), a.eval x = .slice (some ad) n c := by
      generalize a.eval x = u at hx
      cases hx with
      | d hd => cases hd with
        | sl b off len cap _ _ _ => exact ⟨_, _, _, rfl⟩
    split at hv
    · obtain ⟨hu, hv⟩ := hv
      exact fin _ _ _ hx hy eqGuard_slice (run_eql_slice hu) hv.2
    · obtain ⟨hu, hv⟩ := hv
      exact fin _ _ _ hx hy eqGuard_slice (run_neq_slice hu) hv.2
    · exact hv.elim
  · exact hv.elim

theorem ok_unOp {op : UnOp} {t : TypeId} {x : Operand} (ho : o.op = .unOp op t x) : OpOk C nm o := by
  intro E M S a w K Q k hs hv hK
  simp only [AVal, ho] at hv
  have hx := hs.ev x
  split at hv
  · rename_i b he
    rw [he] at hx; have hx := hx.dv
    exact wp_value (v := .bool (!b)) (w' := w) (by simp [execOp, ho, hx, Op.unary]) (hK _ _ _ _ _ hv.2 (hs.app_val hd rfl (.d (.v _))))
  · rename_i ki n he
    rw [he] at hx; have hx := hx.dv
    exact wp_value (v := .int ki (ki.wrap (0 - n))) (w' := w) (by simp [execOp, ho, hx, Op.unary, Op.intArith]) (hK _ _ _ _ _ hv.2 (hs.app_val hd rfl (.d (.v _))))
  · exact hv.elim

theorem ok_convert {s t : TypeId} {x : Operand} (ho : o.op = .convert s t x) : OpOk C nm o := by
  intro E M S a w K Q k hs hv hK
  simp only [AVal, ho] at hv
  have hx := hs.ev x
  split at hv
  · rename_i ds ki kk n h1 h2 he
    rw [he] at hx; have hx := hx.dv
    refine wp_value (v := .int ki (ki.wrap n)) (w' := w) ?_ (hK _ _ _ _ _ hv.2 (hs.app_val hd rfl (.d (.v _))))
    cases ds <;> simp [execOp, ho, hx, convert, run_underlying h1, run_underlying h2, Conv.intToInt]
  · exact hv.elim

theorem ok_extract {x : Operand} {i : Nat} (ho : o.op = .extract x i) : OpOk C nm o := by
  intro E M S a w K Q k hs hv hK
  simp only [AVal, ho] at hv
  have hx := hs.ev x
  split at hv
  · rename_i vs he
    rw [he] at hx
    obtain ⟨cs, h1, h2, h3⟩ := hx.htup
    split at hv
    · rename_i y hy
      have hi : i < cs.size := by have := (List.getElem?_eq_some_iff.1 hy).1; omega
      refine wp_value (v := cs[i]) (w' := w) ?_ (hK _ _ _ _ _ hv.2 (hs.app_val hd rfl (h3 i _ y (Array.getElem?_eq_getElem hi) hy)))
      simp [execOp, ho, h1, Instr.extract, hi]
    · exact hv.elim
  · exact hv.elim

theorem ok_makeFunc {fn : Fn} {first captured : Array Operand} (ho : o.op = .makeFunc fn first captured) : OpOk C nm o := by
  intro E M S a w K Q k hs hv hK
  simp only [AVal, ho] at hv
  split at hv
  · rename_i f
    have key : ∀ (l : Array Operand) (i : Nat) (c : Value) (x : H), (l.map a.eval)[i]? = some c → (l.toList.map (Go.Awp.ev S))[i]? = some x → HRep E M c x := by
      intro l i c x hc hx
      simp only [Array.getElem?_map, List.getElem?_map, Array.getElem?_toList] at hc hx
      cases hl : l[i]? with
      | none => rw [hl] at hc; cases hc
      | some y => rw [hl] at hc hx; simp at hc hx; subst hc; subst hx; exact hs.ev y
    refine wp_value (v := .func (.func f) (first.map a.eval) (captured.map a.eval)) (w' := w) (by simp [execOp, ho, Instr.makeFunc]) (hK _ _ _ _ _ hv.2 (hs.app_val hd rfl ?_))
    exact .fn f _ _ _ _ (by simp) (by simp) (key first) (key captured)
  · exact hv.elim

theorem ok_index {t : TypeId} {x i : Operand} (ho : o.op = .index t x i) : OpOk C nm o := by
  intro E M S a w K Q k hs hv hK
  simp only [AVal, ho] at hv
  have hx := hs.ev x
  have hi := hs.ev i
  split at hv
  · rename_i s kk n h1 he hei
    rw [he] at hx; rw [hei] at hi
    have hx := hx.dv; have hi := hi.dv
    split at hv
    · rename_i b hb
      obtain ⟨h0, hv⟩ := hv
      refine wp_value (v := .int .u8 b.toNat) (w' := w) ?_ (hK _ _ _ _ _ hv.2 (hs.app_val hd rfl (.d (.v _))))
      simp [execOp, ho, hx, hi, Instr.index, asIntOf, run_underlying h1, h0, hb]
    · exact hv.elim
  · exact hv.elim

theorem ok_indexAddr {t : TypeId} {x i : Operand} (ho : o.op = .indexAddr t x i) : OpOk C nm o := by
  intro E M S a w K Q k hs hv hK
  simp only [AVal, ho] at hv
  have hx := hs.ev x
  have hi := hs.ev i
  split at hv
  · rename_i e sz by_ ht
    have hel : ∃ ii, C.P.underlying t = some (.slice e) ∧ C.P.info? e = some ii ∧ ii.size = sz := by
      unfold elemTy at ht
      split at ht
      · rename_i e' hu
        split at ht
        · rename_i ii hii
          split at ht
          · split at ht
            · simp at ht; obtain ⟨rfl, rfl, rfl⟩ := ht; exact ⟨ii, hu, hii, rfl⟩
            · cases ht
          · cases ht
        · cases ht
      · cases ht
    obtain ⟨ii, hu, hii, hsz⟩ := hel
    have run : ∀ (b off len cap : Nat) (kk : IntKind) (n : Int), a.eval x = .slice (some ⟨b, off, none⟩) len cap → a.eval i = .int kk n → 0 ≤ n → n < len →
        (execOp a.eval o).run C.P w = .ok (.value (.pointer (some ⟨b, off + n.toNat * sz, none⟩))) w := by
      intro b off len cap kk n h1 h2 h3 h4
      simp [execOp, ho, h1, h2, Instr.indexAt, asIntOf, run_underlying hu, sizeOf, typeInfo, hii, hsz, h3, h4, addr_add]
    split at hv
    · rename_i sz' rows kk n he hei
      rw [he] at hx; rw [hei] at hi
      have hi := hi.dv
      split at hv
      · rename_i r hr
        obtain ⟨⟨rfl, h0⟩, hv⟩ := hv
        have hlt : n.toNat < rows.length := (List.getElem?_eq_some_iff.1 hr).1
        generalize hq : a.eval x = q at hx
        cases hx with
        | d hx => cases hx with
          | slnil => simp at hlt
          | slmt => simp at hlt
          | sl b off len cap sz rows c hlen hcap hszs hm h =>
            have hrl := hszs r (List.mem_of_getElem? hr)
            have hmul : (n.toNat + 1) * sz ≤ len * sz := Nat.mul_le_mul_right _ (by omega)
            rw [Nat.succ_mul] at hmul
            refine wp_value (run b off len cap kk n hq hi h0 (by omega)) (hK _ _ _ _ _ hv.2 (hs.app_val hd rfl (.d ?_)))
            refine .rp b _ r (fun j => c (n.toNat * sz + j)) (fun j hj => ?_) fun j x hx => h n.toNat j r x hr hx
            rw [Nat.add_assoc]; exact hm _ (by omega)
      · exact hv.elim
    · rename_i m len kk n he hei
      rw [he] at hx; rw [hei] at hi
      have hi := hi.dv
      split at hv
      · rename_i e' s' rows hc
        obtain ⟨⟨h0, h1⟩, hv⟩ := hv
        generalize hq : a.eval x = q at hx
        cases hx with
        | vh m len l c ad hE hl =>
          obtain ⟨xs, ho1, ho2, ho3, ho4⟩ := hs.own m _ hc
          rcases ho1.2 with ⟨hn, hz⟩ | ⟨g, cap, cur, hv', _⟩
          · rw [hE] at hn; cases hn; omega
          · rw [hE] at hv'; simp at hv'; obtain ⟨rfl, rfl, rfl⟩ := hv'
            refine wp_value (run g 0 len c kk n hq hi h0 (by omega)) (hK _ _ _ _ _ hv.2 (hs.app_val hd rfl ?_))
            have := HRep.ep (E := E) (M := M) m sz n.toNat 0 g _ _ hE (by omega)
            simpa using this
      · exact hv.elim
    · exact hv.elim
  · exact hv.elim

end
end Go.Awp
