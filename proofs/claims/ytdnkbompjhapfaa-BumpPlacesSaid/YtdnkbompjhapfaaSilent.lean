/-
  THE OPERATIONS THAT TOUCH NO MEMORY.
-/
import Derived.Test.YtdnkbompjhapfaaSmall
import Derived.Laws.StructEq
namespace Go.Abs

section
variable {P : Program} {φ : Phi} {nt : Nat} {ρ : Env} {ev : Operand → Value} {H : Heap} {call : CallT}

/-- an operation on values alone: it leaves the world, and gives what stands in relation -/
def Gives (P : Program) (φ : Phi) (v : V) (s : Sem Value) : Prop := ∀ w, ∃ x, s.run P w = .ok x w ∧ VRel φ v x

theorem pure1_some {H H' : Heap} {o : Option V} {v : V} (h : pure1 H o = some (v, H')) : H' = H ∧ o = some v := by
  simp only [pure1, Option.map_eq_some_iff] at h
  obtain ⟨u, hu, h⟩ := h
  simp at h
  exact ⟨h.2.symm, by rw [hu, h.1]⟩

theorem binI_rel {op : BinOp} {k : IntKind} {a b : Int} {v : V} (hs : isShift op = false) (h : binI op k a b = some v) : ∀ t, Gives P φ v (binOp op t (.int k a) (.int k b)) := by
  intro t w
  cases op <;> simp only [isShift, Bool.true_eq_false] at hs <;> simp only [binI] at h
  all_goals simp only [binOp, ne_eq, not_true_eq_false, if_false, Op.intArith, Op.intDiv, Op.intBits, Op.intCmp]
  case add => simp at h; subst h; exact ⟨_, rfl, by rw [wrapI_eq]; exact .int _ _⟩
  case sub => simp at h; subst h; exact ⟨_, rfl, by rw [wrapI_eq]; exact .int _ _⟩
  case mul => simp at h; subst h; exact ⟨_, rfl, by rw [wrapI_eq]; exact .int _ _⟩
  case quo =>
    split at h
    · simp at h
    · rename_i hb
      simp at h; subst h
      rw [ieq_eq] at hb
      rw [if_neg (by simpa using hb)]
      exact ⟨_, rfl, by rw [wrapI_eq]; exact .int _ _⟩
  case rem =>
    split at h
    · simp at h
    · rename_i hb
      simp at h; subst h
      rw [ieq_eq] at hb
      rw [if_neg (by simpa using hb)]
      exact ⟨_, rfl, .int _ _⟩
  case and => simp only [Option.some.injEq] at h; subst h; exact ⟨_, rfl, .int _ _⟩
  case or => simp only [Option.some.injEq] at h; subst h; exact ⟨_, rfl, .int _ _⟩
  case xor => simp only [Option.some.injEq] at h; subst h; exact ⟨_, rfl, .int _ _⟩
  case andNot => simp only [Option.some.injEq] at h; subst h; exact ⟨_, rfl, .int _ _⟩
  case eql => simp at h; subst h; exact ⟨_, rfl, by rw [ieq_eq]; exact .bool _⟩
  case neq => simp at h; subst h; exact ⟨_, rfl, by rw [ieq_eq]; exact .bool _⟩
  case lss => simp at h; subst h; exact ⟨_, rfl, by rw [ilt_eq]; exact .bool _⟩
  case leq => simp at h; subst h; refine ⟨_, rfl, ?_⟩; rw [ilt_eq, show (!decide (b < a)) = decide (a ≤ b) by rw [← decide_not]; congr 1; simp; try omega]; exact .bool _
  case gtr => simp at h; subst h; exact ⟨_, rfl, by rw [ilt_eq]; exact .bool _⟩
  case geq => simp at h; subst h; refine ⟨_, rfl, ?_⟩; rw [ilt_eq, show (!decide (a < b)) = decide (a ≥ b) by rw [← decide_not]; congr 1; simp; try omega]; exact .bool _

theorem shift_rel {op : BinOp} {k k' : IntKind} {a b : Int} {v : V} (hs : isShift op = true) (h : binI op k a b = some v) : ∀ t, Gives P φ v (binOp op t (.int k a) (.int k' b)) := by
  intro t w
  cases op <;> simp only [isShift, Bool.false_eq_true] at hs <;> simp only [binI] at h
  all_goals
    split at h
    · simp at h
    · rename_i hb
      simp at h; subst h
      rw [ilt_eq] at hb
      simp only [binOp, Op.shift]
      rw [if_neg (by simpa using hb)]
      exact ⟨_, rfl, .int _ _⟩

theorem strLt_rel : ∀ (a b : List UInt8), strLt (a.map UInt8.toNat) (b.map UInt8.toNat) = Op.bytesLess a b := by
  intro a
  induction a with
  | nil => intro b; cases b <;> simp [strLt, Op.bytesLess]
  | cons x a ih =>
    intro b
    cases b with
    | nil => simp [strLt, Op.bytesLess]
    | cons y b =>
      simp only [List.map_cons, strLt, Op.bytesLess, ih]
      congr 1
      · rw [Bool.eq_iff_iff, blt_iff, decide_eq_true_iff, UInt8.lt_iff_toNat_lt]
      · congr 1
        rw [Bool.eq_iff_iff, beqn_iff, beq_iff_eq]
        exact ⟨fun h => UInt8.toNat_inj.1 h, fun h => by rw [h]⟩
theorem strEq_rel : ∀ (a b : List UInt8), strEq (a.map UInt8.toNat) (b.map UInt8.toNat) = (a == b) := by
  intro a
  induction a with
  | nil => intro b; cases b <;> simp [strEq]
  | cons x a ih =>
    intro b
    cases b with
    | nil => simp [strEq]
    | cons y b =>
      simp only [List.map_cons, strEq, ih]
      show _ = ((x == y) && (a == b))
      congr 1
      rw [Bool.eq_iff_iff, beqn_iff, beq_iff_eq]
      exact ⟨fun h => UInt8.toNat_inj.1 h, fun h => by rw [h]⟩

theorem toList_data (s : ByteArray) : s.toList = s.data.toList := by
  have key : ∀ (n i : Nat) (r : List UInt8), s.size - i = n → ByteArray.toList.loop s i r = r.reverse ++ s.data.toList.drop i := by
    intro n
    induction n with
    | zero =>
      intro i r h
      unfold ByteArray.toList.loop
      rw [if_neg (by omega)]
      rw [List.drop_eq_nil_of_le (by simp only [Array.length_toList]; have : s.size = s.data.size := rfl; omega)]
      simp
    | succ n ih =>
      intro i r h
      unfold ByteArray.toList.loop
      rw [if_pos (by omega), ih (i + 1) _ (by omega)]
      have hi : i < s.data.toList.length := by simp only [Array.length_toList]; have : s.size = s.data.size := rfl; omega
      rw [List.drop_eq_getElem_cons hi]
      have e : s.get! i = s.data.toList[i] := by
        have : i < s.data.size := by simpa using hi
        show s.data[i]! = _
        rw [getElem!_pos s.data i this]
        simp
      rw [e]
      simp
  have := key s.size 0 [] rfl
  simp only [List.reverse_nil, List.nil_append, List.drop_zero] at this
  exact this

theorem binS_rel {op : BinOp} {a b : List Nat} {s t : ByteArray} {v : V} (ha : s.data.toList.map UInt8.toNat = a) (hb : t.data.toList.map UInt8.toNat = b) (h : binS op a b = some v) : ∀ ty, Gives P φ v (binOp op ty (.string s) (.string t)) := by
  subst ha hb
  have hlen : s.size = s.data.toList.length := by simp
  have hlen' : t.size = t.data.toList.length := by simp
  intro ty w
  cases op <;> simp only [binS] at h
  all_goals try (simp at h; done)
  all_goals simp only [binOp, Op.stringOp, toList_data]
  case add =>
    split at h
    · rename_i hl
      simp at h; subst h
      simp only [List.length_map] at hl
      rw [if_neg (by rw [hlen, hlen']; simp [IntKind.max, IntKind.signed, IntKind.bits]; simp at hl; omega)]
      exact ⟨_, rfl, .str (by simp)⟩
    · simp at h
  all_goals
    simp only [Option.some.injEq] at h
    subst h
    simp only [strLt_rel, strEq_rel]
    exact ⟨_, rfl, .bool _⟩

theorem binV_rel {op : BinOp} {a b v : V} {x y : Value} (ha : VRel φ a x) (hb : VRel φ b y) (h : binV op a b = some v) : ∀ t, Gives P φ v (binOp op t x y) := by
  intro t
  cases ha <;> cases hb <;> simp only [binV] at h <;> try (simp at h; done)
  · rename_i k n k' n'
    split at h
    · rename_i hk
      cases hs : isShift op with
      | true => exact shift_rel hs h t
      | false =>
        rw [hs, Bool.or_false, ikEq_iff] at hk
        subst hk
        exact binI_rel hs h t
    · simp at h
  · exact binS_rel ‹_› ‹_› h t

/-- the guard on '==' of two nil interface values says nothing of these -/
theorem eqGuard_plain {op : BinOp} {t : TypeId} {x y : Operand} {a b : Value} (h : ∀ c, a ≠ .agg c) (h' : a ≠ .nilIface) (w : World) : (eqGuard op t x y a b).run P w = .ok () w := by
  unfold eqGuard
  cases a <;> first
    | exact absurd rfl h'
    | exact absurd rfl (h _)
    | (cases op <;> simp)

theorem VRs.of_extract {l r : List V} {a : Array Value} {off n : Nat} (h : VRs φ l a.toList) (h' : ((dropN off l).bind (takeN n)) = some r) : VRs φ r (a.extract off (off + n)).toList ∧ off + n ≤ a.size := by
  simp only [Option.bind_eq_some_iff] at h'
  obtain ⟨m, hm, hr⟩ := h'
  obtain ⟨h1, h2⟩ := h.dropR off hm
  obtain ⟨h3, h4⟩ := h2.takeR n hr
  simp only [Array.length_toList, List.length_drop] at h1 h3
  refine ⟨?_, by omega⟩
  rw [Array.toList_extract, List.extract_eq_take_drop]
  simpa using h4

theorem VRs.at {l r : List V} {v : V} {a : Array Value} {off : Nat} (h : VRs φ l a.toList) (h' : dropN off l = some (v :: r)) : ∃ x, a[off]? = some x ∧ VRel φ v x := by
  obtain ⟨h1, h2⟩ := h.dropR off h'
  obtain ⟨x, a', hx, hv, _⟩ := h2.cases
  refine ⟨x, ?_, hv⟩
  have : (a.toList.drop off)[0]? = some x := by rw [hx]; rfl
  simpa using this

theorem part1_rel {t : TypeId} {l r : List V} {v : V} {a : Array Value} {off : Nat} (ht : aggT P t = some false) (h : VRs φ l a.toList) (h' : dropN off l = some (v :: r)) : Gives P φ v (part t a off) := by
  intro w
  obtain ⟨x, hx, hv⟩ := h.at h'
  refine ⟨x, ?_, hv⟩
  simp [part, run_agg ht]
  rw [hx]
  rfl

theorem partN_rel {t : TypeId} {l r : List V} {a : Array Value} {off n : Nat} (ht : aggT P t = some true) (hn : sizeT P t = some n) (h : VRs φ l a.toList) (h' : ((dropN off l).bind (takeN n)) = some r) : Gives P φ (.agg r) (part t a off) := by
  intro w
  refine ⟨_, by simp [part, run_agg ht, run_size hn]; rfl, ?_⟩
  have := VRel.agg' (h.of_extract h').1
  rw [Array.toArray_toList] at this
  exact this

theorem unV_rel {op : UnOp} {a v : V} {x : Value} (ha : VRel φ a x) (h : unV op a = some v) : Gives P φ v (Op.unary op x) := by
  intro w
  cases op <;> cases ha <;> simp only [unV] at h <;> try (simp at h; done)
  · simp only [Option.some.injEq] at h; subst h; exact ⟨_, rfl, by rw [wrapI_eq]; exact .int _ _⟩
  · rename_i k n
    simp only [binI, Option.some.injEq] at h
    subst h
    refine ⟨_, rfl, ?_⟩
    exact .int _ _
  · simp at h; subst h; exact ⟨_, rfl, .bool _⟩


theorem eqFields_rel {d : Nat} {a b : Array Value} {xs ys : List V} (hx : VRs φ xs a.toList) (hy : VRs φ ys b.toList) : ∀ {ts : List Field} {ks : List (Nat × SK)} {r : Bool}, mapO (fieldK P) ts = some ks →
    eqCells ks xs ys = some r → ∀ w, (Op.eqFields (d + 1) a b ts).run P w = .ok r w := by
  intro ts
  induction ts with
  | nil => intro ks r hk h w; simp [mapO] at hk; subst hk; simp [eqCells] at h; subst h; simp [Op.eqFields]
  | cons f ts ih =>
    intro ks r hk h w
    simp only [mapO, Option.bind_eq_some_iff, Option.map_eq_some_iff] at hk
    obtain ⟨⟨o, sk⟩, hfk, ks, hks, rfl⟩ := hk
    have ih' := @ih ks r hks
    simp only [fieldK] at hfk
    split at hfk
    · simp at hfk
    rename_i hn
    simp only [Option.map_eq_some_iff, Prod.mk.injEq] at hfk
    obtain ⟨sk', hs, rfl, rfl⟩ := hfk
    have hagg : aggT P f.type = some false := by
      unfold scalT at hs
      unfold aggT
      split at hs <;> simp_all
    simp only [eqCells] at h
    have key : ∀ (u v : V) (l l' : List V), dropN f.offset xs = some (u :: l) → dropN f.offset ys = some (v :: l') → ∃ p q, VRel φ u p ∧ VRel φ v q ∧
        (Op.eqFields (d + 1) a b (f :: ts)).run P w = ((Op.equalIn (d + 1) f.type p q).run P w).andThen fun r w' => if (!r) = true then .ok false w' else (Op.eqFields (d + 1) a b ts).run P w' := by
      intro u v l l' hu hv
      obtain ⟨p, hp, hup⟩ := hx.at hu
      obtain ⟨q, hq, hvq⟩ := hy.at hv
      refine ⟨p, q, hup, hvq, ?_⟩
      simp only [Op.eqFields, hn, if_true, ne_eq, not_false_eq_true, Sem.run_bind, part, run_agg hagg, Result.andThen_ok, Bool.false_eq_true, if_false, hp, hq, Sem.run_pure, Sem.run_ite]
    split at h
    · rename_i k x l k' y l' hu hv
      obtain ⟨p, q, hp, hq, e⟩ := key _ _ _ _ hu hv
      cases hp
      cases hq
      split at h
      · rename_i hk
        rw [ikEq_iff] at hk
        subst hk
        have hu : ∃ k2, P.underlying f.type = some (.int k2) := by
          unfold scalT at hs
          split at hs <;> simp_all
        obtain ⟨k2, hu⟩ := hu
        rw [e, run_equalIn_int _ _ _ _ _ _ _ hu, Result.andThen_ok, ← ieq_eq]
        split at h
        · rename_i hh; rw [hh]; simpa using ih' h w
        · rename_i hh; simp at h; subst h; rw [Bool.not_eq_true] at hh; rw [hh]; rfl
      · simp at h
    · rename_i x l y l' hu hv
      obtain ⟨p, q, hp, hq, e⟩ := key _ _ _ _ hu hv
      cases hp
      cases hq
      have hu : P.underlying f.type = some .bool := by
        unfold scalT at hs
        split at hs <;> simp_all
      rw [e, run_equalIn_bool' _ _ _ _ _ hu, Result.andThen_ok, ← beqB_eq]
      split at h
      · rename_i hh; rw [hh]; simpa using ih' h w
      · rename_i hh; simp at h; subst h; rw [Bool.not_eq_true] at hh; rw [hh]; rfl
    · rename_i x l y l' hu hv
      obtain ⟨p, q, hp, hq, e⟩ := key _ _ _ _ hu hv
      cases hp
      cases hq
      rename_i s1 h1 s2 h2
      subst h1 h2
      have hu : P.underlying f.type = some .string := by
        unfold scalT at hs
        split at hs <;> simp_all
      rw [e, run_equalIn_string _ _ _ _ _ hu, Result.andThen_ok, toList_data, toList_data, ← strEq_rel]
      split at h
      · rename_i hh; rw [hh]; simpa using ih' h w
      · rename_i hh; simp at h; subst h; rw [Bool.not_eq_true] at hh; rw [hh]; rfl
    · simp at h

theorem binEq {t : TypeId} {x y : Value} {r : Bool} (w : World) (h : ∀ d, (Op.equalIn (d + 1) t x y).run P w = .ok r w)
    (hx : (∃ b, x = .bool b) ∨ (∃ a, x = .pointer a ∧ (∃ b, y = .pointer b)) ∨ (∃ a n c, x = .slice a n c) ∨ (∃ f a b, x = .func f a b) ∨ x = .nilFunc) : (binOp .eql t x y).run P w = .ok (.bool r) w ∧ (binOp .neq t x y).run P w = .ok (.bool !r) w := by
  have h' : (Op.equal t x y).run P w = .ok r w := h 9999
  rcases hx with ⟨b, rfl⟩ | ⟨a, rfl, b, rfl⟩ | ⟨a, n, c, rfl⟩ | ⟨f, a, b, rfl⟩ | rfl <;> simp only [binOp] <;> simp [h']

theorem eqIn_ptr {t e : TypeId} (hu : P.underlying t = some (.pointer e)) (w : World) (a b : Option Addr) (h : a = none ∨ b = none) : ∀ d, (Op.equalIn (d + 1) t (.pointer a) (.pointer b)).run P w = .ok (a.isNone && b.isNone) w := by
  intro d
  cases a with
  | none => simp [Op.equalIn, run_und hu]
  | some a => rcases h with h | h
              · simp at h
              · subst h; simp [Op.equalIn, run_und hu]
theorem eqIn_slice {t e : TypeId} (hu : P.underlying t = some (.slice e)) (w : World) (a b : Option Addr) (n c n' c' : Nat) (h : a = none ∨ b = none) : ∀ d, (Op.equalIn (d + 1) t (.slice a n c) (.slice b n' c')).run P w = .ok (a.isNone && b.isNone) w := by
  intro d
  cases a with
  | none => simp [Op.equalIn, run_und hu]
  | some a => rcases h with h | h
              · simp at h
              · subst h; simp [Op.equalIn, run_und hu]
theorem eqIn_func {t : TypeId} {ps rs : Array TypeId} {v : Bool} (hu : P.underlying t = some (.func ps rs v)) (w : World) (f : Fn) (a b : Array Value) :
    (∀ d, (Op.equalIn (d + 1) t .nilFunc .nilFunc).run P w = .ok true w) ∧ (∀ d, (Op.equalIn (d + 1) t .nilFunc (.func f a b)).run P w = .ok false w) ∧ (∀ d, (Op.equalIn (d + 1) t (.func f a b) .nilFunc).run P w = .ok false w) :=
  ⟨fun d => by simp [Op.equalIn, run_und hu], fun d => by simp [Op.equalIn, run_und hu], fun d => by simp [Op.equalIn, run_und hu]⟩

/-- '==' and '!=' by the plan of the operands' type -/
theorem eqV_rel {t : TypeId} {k : EqK} {a b : V} {x y : Value} {r : Bool} {op : BinOp} {ox oy : Operand} (hk : trEq P t = some k) (ha : VRel φ a x) (hb : VRel φ b y) (h : eqV k a b = some r) (hop : op = .eql ∨ op = .neq) (w : World) :
    (do eqGuard op t ox oy x y; binOp op t x y : Sem Value).run P w = .ok (.bool (if decide (op = .neq) then !r else r)) w := by
  have fin : ∀ (_ : ∀ c, x ≠ .agg c) (_ : x ≠ .nilIface) (_ : (binOp .eql t x y).run P w = .ok (.bool r) w) (_ : (binOp .neq t x y).run P w = .ok (.bool !r) w),
      (do eqGuard op t ox oy x y; binOp op t x y : Sem Value).run P w = .ok (.bool (if decide (op = .neq) then !r else r)) w := by
    intro h1 h2 h3 h4
    simp only [Sem.run_bind, eqGuard_plain h1 h2, Result.andThen_ok]
    rcases hop with rfl | rfl
    · simpa using h3
    · simpa using h4
  unfold trEq at hk
  split at hk
  · rename_i hu
    simp at hk; subst hk
    cases ha <;> cases hb <;> simp only [eqV] at h <;> try (simp at h; done)
    simp only [Option.some.injEq, beqB_eq] at h
    subst h
    exact fin (by simp) (by simp) (binEq w (fun d => run_equalIn_bool' w d t _ _ hu) (.inl ⟨_, rfl⟩)).1 (binEq w (fun d => run_equalIn_bool' w d t _ _ hu) (.inl ⟨_, rfl⟩)).2
  · rename_i e hu
    split at hk
    · simp at hk
    simp at hk; subst hk
    cases ha <;> cases hb <;> simp only [eqV] at h <;> try (simp at h; done)
    all_goals
      simp only [Option.some.injEq] at h
      subst h
      exact fin (by simp) (by simp) (binEq w (eqIn_ptr hu w _ _ (by simp)) (.inr (.inl ⟨_, rfl, _, rfl⟩))).1 (binEq w (eqIn_ptr hu w _ _ (by simp)) (.inr (.inl ⟨_, rfl, _, rfl⟩))).2
  · rename_i e hu
    simp at hk; subst hk
    cases ha <;> cases hb <;> simp only [eqV] at h <;> try (simp at h; done)
    all_goals
      simp only [Option.some.injEq] at h
      subst h
      exact fin (by simp) (by simp) (binEq w (eqIn_slice hu w _ _ _ _ _ _ (by simp)) (.inr (.inr (.inl ⟨_, _, _, rfl⟩)))).1 (binEq w (eqIn_slice hu w _ _ _ _ _ _ (by simp)) (.inr (.inr (.inl ⟨_, _, _, rfl⟩)))).2
  · rename_i hu
    simp at hk; subst hk
    cases ha <;> cases hb <;> simp only [eqV] at h <;> try (simp at h; done)
    all_goals
      simp only [Option.some.injEq] at h
      subst h
    · exact fin (by simp) (by simp) (binEq w (eqIn_func hu w _ _ _).2.2 (.inr (.inr (.inr (.inl ⟨_, _, _, rfl⟩))))).1 (binEq w (eqIn_func hu w _ _ _).2.2 (.inr (.inr (.inr (.inl ⟨_, _, _, rfl⟩))))).2
    · exact fin (by simp) (by simp) (binEq w (eqIn_func hu w _ _ _).2.1 (.inr (.inr (.inr (.inr rfl))))).1 (binEq w (eqIn_func hu w _ _ _).2.1 (.inr (.inr (.inr (.inr rfl))))).2
    · exact fin (by simp) (by simp) (binEq w (eqIn_func hu w default #[] #[]).1 (.inr (.inr (.inr (.inr rfl))))).1 (binEq w (eqIn_func hu w default #[] #[]).1 (.inr (.inr (.inr (.inr rfl))))).2
  · rename_i fs hu
    split at hk
    · simp at hk
    rename_i hh
    simp only [Bool.or_eq_true, not_or, Bool.not_eq_true] at hh
    simp only [Option.map_eq_some_iff] at hk
    obtain ⟨ks, hks, rfl⟩ := hk
    have hfo : P.fieldsOf t = fs := by simp [Program.fieldsOf, hu]
    cases a with
    | agg l =>
      cases b with
      | agg l' =>
        simp only [eqV] at h
        obtain ⟨a', rfl, hl⟩ := ha.agg_inv
        obtain ⟨b', rfl, hl'⟩ := hb.agg_inv
        have e := eqFields_rel (P := P) (φ := φ) (d := 9998) (a := a'.toArray) (b := b'.toArray) (by simpa using hl) (by simpa using hl') hks h w
        have e2 := run_equalIn_struct (P := P) w 9999 t a'.toArray b'.toArray (by rw [hfo]; exact hu) hh.1
        rw [hfo, e] at e2
        simp only [Sem.run_bind, run_eqGuard_agg _ _ _ _ _ _ _ hh.2, Result.andThen_ok]
        rcases hop with rfl | rfl
        · rw [run_eql_struct, e2]; simp
        · rw [run_neq_struct, e2]; simp
      | _ => simp [eqV] at h
    | _ => simp [eqV] at h
  · simp at hk
end
end Go.Abs
