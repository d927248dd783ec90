/-
  copy; AND ALL OPERATIONS THAT TOUCH MEMORY, without calls, in one theorem.
-/
import Derived.Test.YtdnkbompjhapfaaAppend
namespace Go.Abs

section
variable {P : Program} {base : Nat} {w0 : World} {φ : Phi} {H H' : Heap} {w : World} {nt : Nat} {ρ : Env} {ev : Operand → Value} {call : CallT} {v : V}

theorem write_nil {b : Pos} {o : Nat} {H1 : Heap} (hw : H.write b o [] = some H1) (h : Rep base w0 φ H.get w) : Rep base w0 φ H1.get w ∧ Frm φ H w φ H1 w := by
  unfold Heap.write at hw
  split at hw
  · rename_i cs hg
    split at hw
    · simp only [putN_nil, Option.map_some, Option.some.injEq] at hw
      subst hw
      have hgg : (H.put b (some (.cells cs true))).get = H.get := by
        funext q
        by_cases hq : q = b
        · subst hq
          rw [hg]; exact PT.get_set_same _ _ _
        · exact PT.get_set_ne _ hq _
      refine ⟨by rw [hgg]; exact h, fun p _ => rfl, Nat.le_refl _, fun _ _ _ => rfl, fun B' _ hB' => ?_⟩
      obtain ⟨p, cs0, l0, s0, k1, k2, k3⟩ := hB'
      rw [hgg] at k1
      exact ⟨p, cs0, l0, s0, k1, k2, k3⟩
    · simp at hw
  · simp at hw

theorem copy_ok {t e : TypeId} {ts : List TypeId} {ty : TypeId} {d s : V} {d' s' : Value} {esz : Nat} (hu : P.underlying t = some (.slice e)) (hs : sizeT P e = some esz)
    (hr : (match d, elemsV H esz s with
      | .nilslice, some _ => some (V.int .i64 0, H)
      | .slice b o m _, some (n, vs) =>
        match takeN (min n m * esz) vs with
        | some vs => (H.write b o vs).map fun H => (.int .i64 (.ofNat (min n m)), H)
        | none => none
      | _, _ => none) = some (v, H')) (h : Rep base w0 φ H.get w) (hd : VRel φ d d') (hsv : VRel φ s s') :
    LOk P base w0 φ H w v H' (do pure (.value (← Builtin.copy_ (t :: ts).toArray ty [d', s'].toArray))) := by
  split at hr
  · rename_i p he
    obtain ⟨n, vs⟩ := p
    simp only [Option.some.injEq, Prod.mk.injEq] at hr
    obtain ⟨rfl, rfl⟩ := hr
    obtain ⟨xs, h1, h2, h3, h4⟩ := elems_rel (P := P) h hsv he
    have h40 := h4 w.drawn 0 (Nat.zero_le _)
    simp only [Nat.zero_mul, List.take_zero] at h40
    cases hd
    refine LOk.of_same (x := .int .i64 0) h ?_ (.int _ _)
    unfold Builtin.copy_
    simp only [List.getElem?_toArray, List.getElem?_cons_zero, List.getElem?_cons_succ, Sem.run_bind, run_und hu, Result.andThen_ok, run_size hs, h3]
    have : Nat.min n 0 = 0 := Nat.min_zero n
    rw [this, h40]
    simp [goInt]
  · rename_i b o m cap n vs he
    split at hr
    · rename_i vs' htake
      simp only [Option.map_eq_some_iff, Prod.mk.injEq] at hr
      obtain ⟨H1, hw, rfl, rfl⟩ := hr
      obtain ⟨xs, h1, h2, h3, h4⟩ := elems_rel (P := P) h hsv he
      have h4m := h4 w.drawn (min n m) (Nat.min_le_left _ _)
      obtain ⟨_, hrel⟩ := h2.takeR _ htake
      have fin : ∀ (B lo sz c : Nat), φ b = some (B, lo, sz) → d' = .slice (some ⟨B, lo + o, none⟩) m c → LOk P base w0 φ H w (.int .i64 (.ofNat (min n m))) H1 (do pure (.value (← Builtin.copy_ (t :: ts).toArray ty [d', s'].toArray))) := by
        rintro B lo sz c hp rfl
        obtain ⟨w', k1, k2, k3⟩ := h.write (P := P) hw hp hrel
        refine ⟨φ, .int .i64 (min n m : Nat), w', .inl ?_, .int _ _, k2, k3⟩
        unfold Builtin.copy_
        simp only [List.getElem?_toArray, List.getElem?_cons_zero, List.getElem?_cons_succ, Sem.run_bind, run_und hu, Result.andThen_ok, run_size hs, h3]
        have e1 : Nat.min n m = min n m := rfl
        rw [e1, h4m]
        simp only [Result.andThen_ok, k1, Sem.run_pure]
        rfl
      have zero : ∀ (a : Addr), d' = .slice (some a) 0 0 → m = 0 → LOk P base w0 φ H w (.int .i64 (.ofNat (min n m))) H1 (do pure (.value (← Builtin.copy_ (t :: ts).toArray ty [d', s'].toArray))) := by
        rintro a rfl rfl
        have hmin : min n 0 = 0 := Nat.min_zero n
        rw [hmin] at htake h4m
        simp only [Nat.zero_mul, takeN, Option.some.injEq] at htake
        subst htake
        obtain ⟨k2, k3⟩ := write_nil hw h
        refine ⟨φ, .int .i64 (min n 0 : Nat), w, .inl ?_, .int _ _, k2, k3⟩
        unfold Builtin.copy_
        simp only [List.getElem?_toArray, List.getElem?_cons_zero, List.getElem?_cons_succ, Sem.run_bind, run_und hu, Result.andThen_ok, run_size hs, h3]
        have e1 : Nat.min n 0 = 0 := hmin
        rw [e1, h4m]
        simp [goInt, storeCells]
      cases hd with
      | exact hp hl => exact fin _ _ _ _ hp rfl
      | opn hp hl hs' => exact fin _ _ _ _ hp rfl
      | exact0 a => exact zero a rfl rfl
      | opn0 a => exact zero a rfl rfl
    · simp at hr
  · simp at hr

theorem mapO_two {α β : Type} {f : α → Option β} {l : List α} {x y : β} (h : mapO f l = some [x, y]) : ∃ a b, l = [a, b] ∧ f a = some x ∧ f b = some y := by
  have hl := mapO_length h
  match l, hl with
  | [a, b], _ =>
    simp only [mapO, Option.bind_eq_some_iff, Option.map_eq_some_iff] at h
    obtain ⟨x', hx, r, ⟨y', hy, r', hr', rfl⟩, e⟩ := h
    simp at hr'
    subst hr'
    simp at e
    obtain ⟨rfl, rfl⟩ := e
    exact ⟨a, b, rfl, hx, hy⟩

theorem loud_builtin {b : Builtin} {args : List Operand} {ts : List TypeId} {ty : TypeId} {aop : AOp} (ht : trBuiltin P nt b args ts = some aop) (hs : aop.silent = false) (hr : aop.run call ρ H = some (v, H'))
    (h1 : ∀ x ∈ args, ER φ nt ρ ev x) (cs : Array Bool) (h : Rep base w0 φ H.get w) (hf : Fresh φ H H') : LOk P base w0 φ H w v H' (builtin b ts.toArray ty cs (args.map ev).toArray) := by
  unfold trBuiltin at ht
  split at ht
  · split at ht
    · simp only [Option.some.injEq] at ht; subst ht; simp [AOp.silent] at hs
    · simp only [Option.some.injEq] at ht; subst ht; simp [AOp.silent] at hs
    · simp only [Option.some.injEq] at ht; subst ht; simp [AOp.silent] at hs
    · split at ht
      · simp only [Option.some.injEq] at ht; subst ht; simp [AOp.silent] at hs
      · simp at ht
    · simp at ht
  · rename_i s' x' t u us hargs
    obtain ⟨sa, xa, rfl, hsa, hxa⟩ := mapO_two hargs
    have key : ∀ e, P.underlying t = some (.slice e) → ((∃ e', P.underlying u = some (.slice e')) ∨ P.underlying u = some .string) →
        (match sizeT P e, bytesT P e, zeroT P e with
          | some n, some b, some z => if z.length = n then some (AOp.append n b s' x') else none
          | _, _, _ => none) = some aop → LOk P base w0 φ H w v H' (builtin .append (t :: u :: us).toArray ty cs ([sa, xa].map ev).toArray) := by
      intro e hu hu2 ht
      split at ht
      · rename_i n bb z hn hb hz
        split at ht
        · rename_i hzl
          simp only [Option.some.injEq] at ht
          subst ht
          unfold AOp.run AOp.fn at hr
          dsimp only at hr
          split at hr
          · rename_i sv xv hsv hxv
            exact append_ok hu hu2 hn hb hz hzl hr h hf (h1 sa (by simp) s' sv hsa hsv) (h1 xa (by simp) x' xv hxa hxv)
          · simp at hr
        · simp at ht
      · simp at ht
    split at ht
    · rename_i e e' hu hu2
      exact key e hu (.inl ⟨e', hu2⟩) ht
    · rename_i e hu hu2
      exact key e hu (.inr hu2) ht
    · simp at ht
  · rename_i d' s' t us hargs
    obtain ⟨da, sa, rfl, hda, hsa⟩ := mapO_two hargs
    split at ht
    · rename_i e hu
      simp only [Option.map_eq_some_iff] at ht
      obtain ⟨n, hn, rfl⟩ := ht
      unfold AOp.run AOp.fn at hr
      dsimp only at hr
      split at hr
      · rename_i dv sv hdv hsv
        exact copy_ok hu hn hr h (h1 da (by simp) d' dv hda hdv) (h1 sa (by simp) s' sv hsa hsv)
      · simp at hr
    · simp at ht
  · simp only [Option.some.injEq] at ht; subst ht; simp [AOp.silent] at hs
  · simp only [Option.some.injEq] at ht; subst ht; simp [AOp.silent] at hs
  · simp at ht

/-- a call? -/
def AOp.calls : AOp → Bool
  | .call .. | .callv .. => true
  | _ => false

theorem loud_ok {o : Oper} {aop : AOp} (ht : trOp P nt o.op = some aop) (hs : aop.silent = false) (hc : aop.calls = false) (hr : aop.run call ρ H = some (v, H')) (he : ∀ x ∈ o.op.operands, ER φ nt ρ ev x)
    (h : Rep base w0 φ H.get w) (hf : Fresh φ H H') : LOk P base w0 φ H w v H' (execOp ev o) := by
  obtain ⟨dst, op, ty, pos, after, guard⟩ := o
  dsimp only at ht he
  cases op with
  | alloc t => exact loud_alloc ht hr h hf
  | box t x => exact loud_box ht hr (he x (by simp [Op.operands])) h hf
  | buildSlice t n ps => exact loud_buildSlice ht hr (fun p hp => he p.2 (by simp [Op.operands]; exact ⟨p.1, by simpa using hp⟩)) h hf
  | load t a => exact loud_load ht hr (he a (by simp [Op.operands])) h
  | store t a x => exact loud_store ht hr (he a (by simp [Op.operands])) (he x (by simp [Op.operands])) h
  | makeSlice t l c => exact loud_mkSlice ht hr (he l (by simp [Op.operands])) (he c (by simp [Op.operands])) h hf
  | call c =>
    obtain ⟨callee, args, ts⟩ := c
    unfold trOp at ht
    dsimp only at ht
    cases callee with
    | builtin b =>
      dsimp only at ht
      have := loud_builtin (P := P) (φ := φ) (ty := ty) (ev := ev) ht hs hr (fun x hx => he x (by simp only [Op.operands, Call.operands, Array.mem_append]; exact .inr (mem_tolist hx))) (args.map fun | .const _ => true | _ => false) h hf
      have e1 : (args.toList.map ev).toArray = args.map ev := by cases args; simp
      have e2 : ts.toList.toArray = ts := by simp
      rw [e1, e2] at this
      exact this
    | value f =>
      split at ht
      · split at ht
        · simp only [Option.map_eq_some_iff] at ht; obtain ⟨l, _, rfl⟩ := ht; simp [AOp.calls] at hc
        · simp at ht
      · split at ht
        · simp only [Option.some.injEq] at ht; subst ht; simp [AOp.calls] at hc
        · simp at ht
      · rename_i h; simp at h
      · simp at ht
    | invoke r m => simp at ht
  | move x => exact absurd hs (by simp only [trOp, Option.map_eq_some_iff] at ht; obtain ⟨_, _, rfl⟩ := ht; simp [AOp.silent])
  | assign x => exact absurd hs (by simp only [trOp, Option.map_eq_some_iff] at ht; obtain ⟨_, _, rfl⟩ := ht; simp [AOp.silent])
  | nilCheck x => exact absurd hs (by simp only [trOp, Option.map_eq_some_iff] at ht; obtain ⟨_, _, rfl⟩ := ht; simp [AOp.silent])
  | unOp op t x => exact absurd hs (by simp only [trOp, Option.map_eq_some_iff] at ht; obtain ⟨_, _, rfl⟩ := ht; simp [AOp.silent])
  | extract x i => exact absurd hs (by simp only [trOp, Option.map_eq_some_iff] at ht; obtain ⟨_, _, rfl⟩ := ht; simp [AOp.silent])
  | pick c a b =>
    unfold trOp at ht
    dsimp only at ht
    split at ht
    · simp only [Option.some.injEq] at ht; subst ht; simp [AOp.silent] at hs
    · simp at ht
  | build t ps =>
    unfold trOp at ht
    dsimp only at ht
    split at ht
    · split at ht
      · simp only [Option.map_eq_some_iff] at ht; obtain ⟨_, _, rfl⟩ := ht; simp [AOp.silent] at hs
      · simp at ht
    · split at ht
      · simp only [Option.map_eq_some_iff] at ht; obtain ⟨_, _, rfl⟩ := ht; simp [AOp.silent] at hs
      · simp at ht
    · simp at ht
  | binOp op t x y u =>
    unfold trOp at ht
    dsimp only at ht
    split at ht
    · split at ht
      · split at ht
        · simp only [Option.some.injEq] at ht; subst ht; simp [AOp.silent] at hs
        · simp only [Option.some.injEq] at ht; subst ht; simp [AOp.silent] at hs
        · simp only [Option.map_eq_some_iff] at ht; obtain ⟨_, _, rfl⟩ := ht; simp [AOp.silent] at hs
      · simp only [Option.some.injEq] at ht; subst ht; simp [AOp.silent] at hs
    · simp at ht
  | convert s t x =>
    unfold trOp at ht
    dsimp only at ht
    split at ht
    · simp only [Option.some.injEq] at ht; subst ht; simp [AOp.silent] at hs
    · simp at ht
  | makeInterface t x =>
    unfold trOp at ht
    dsimp only at ht
    split at ht
    · simp at ht
    · simp only [Option.some.injEq] at ht; subst ht; simp [AOp.silent] at hs
    · simp at ht
  | makeFunc fn a b =>
    unfold trOp at ht
    cases fn with
    | func f =>
      dsimp only at ht
      split at ht
      · simp only [Option.some.injEq] at ht; subst ht; simp [AOp.silent] at hs
      · simp at ht
    | _ => simp at ht
  | slice t x lo hi mx =>
    unfold trOp at ht
    dsimp only at ht
    unfold trSlice at ht
    split at ht
    · split at ht
      · simp only [Option.map_eq_some_iff] at ht; obtain ⟨_, _, rfl⟩ := ht; simp [AOp.silent] at hs
      · simp only [Option.map_eq_some_iff] at ht; obtain ⟨_, _, rfl⟩ := ht; simp [AOp.silent] at hs
      · split at ht
        · simp only [Option.some.injEq] at ht; subst ht; simp [AOp.silent] at hs
        · simp at ht
      · split at ht
        · simp only [Option.map_eq_some_iff] at ht; obtain ⟨_, _, rfl⟩ := ht; simp [AOp.silent] at hs
        · simp at ht
      · simp at ht
    · simp at ht
  | fieldAddr s x f =>
    unfold trOp at ht
    dsimp only at ht
    split at ht
    · obtain ⟨_, _, ht⟩ := bind_some ht
      split at ht
      · simp only [Option.some.injEq] at ht; subst ht; simp [AOp.silent] at hs
      · simp at ht
    · simp at ht
  | field t x f =>
    unfold trOp at ht
    dsimp only at ht
    split at ht
    · obtain ⟨_, _, ht⟩ := bind_some ht
      split at ht
      · simp only [Option.some.injEq] at ht; subst ht; simp [AOp.silent] at hs
      · simp only [Option.some.injEq] at ht; subst ht; simp [AOp.silent] at hs
      · simp at ht
    · simp at ht
  | indexAddr t x i =>
    unfold trOp at ht
    dsimp only at ht
    split at ht
    · simp only [Option.map_eq_some_iff] at ht; obtain ⟨_, _, rfl⟩ := ht; simp [AOp.silent] at hs
    · simp only [Option.map_eq_some_iff] at ht; obtain ⟨_, _, rfl⟩ := ht; simp [AOp.silent] at hs
    · simp at ht
  | index t x i =>
    unfold trOp at ht
    dsimp only at ht
    split at ht
    · simp only [Option.some.injEq] at ht; subst ht; simp [AOp.silent] at hs
    · split at ht
      · simp only [Option.some.injEq] at ht; subst ht; simp [AOp.silent] at hs
      · simp only [Option.some.injEq] at ht; subst ht; simp [AOp.silent] at hs
      · simp at ht
    · simp at ht
  | _ => simp [trOp] at ht
end
end Go.Abs
