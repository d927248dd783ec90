/-
  WALKING: copies and changes of lists.
-/
import Derived.Test.YtdnkbompjhapfaaWalk4
set_option linter.unusedVariables false
namespace Go.Abs

theorem Sl.par {α : Type} {e : α → List V} {esz : Nat} {H : Heap} {v : V} {l : List α} (h : Sl e esz H v l) (lo : Nat) : Sl e esz { H with lo := lo } v l := by
  cases h with
  | nil => exact .nil
  | «at» b o c l cs own hg hc hk => exact .at b o c l cs own hg hc hk
theorem Sl.old {α : Type} {e : α → List V} {esz : Nat} {H : Heap} {b : Pos} {o n : Nat} {c : Cap} {l : List α} (h : Sl e esz H (.slice b o n c) l) (hw : Wf H) : b.nat < H.next.nat := by
  generalize hv : V.slice b o n c = v at h
  cases h with
  | nil => simp at hv
  | «at» b' o' c' l cs own hg hc hk =>
    simp only [V.slice.injEq] at hv
    obtain ⟨rfl, _⟩ := hv
    exact hw.lt hg

theorem putN_here : ∀ (vs mid post : List V), mid.length = vs.length → putN 0 vs (mid ++ post) = some (vs ++ post) := by
  intro vs
  induction vs with
  | nil => intro mid post h; cases mid with
    | nil => simp [putN]
    | cons m mid => simp at h
  | cons v vs ih =>
    intro mid post h
    cases mid with
    | nil => simp at h
    | cons m mid =>
      have := ih mid post (by simpa using h)
      simp only [List.cons_append, putN, this, Option.map_some]

theorem putN_mid : ∀ (pre vs mid post : List V), mid.length = vs.length → putN pre.length vs (pre ++ (mid ++ post)) = some (pre ++ (vs ++ post)) := by
  intro pre
  induction pre with
  | nil => intro vs mid post h; exact putN_here vs mid post h
  | cons x pre ih =>
    intro vs mid post h
    cases vs with
    | nil => cases mid with
      | nil => simp [putN]
      | cons m mid => simp at h
    | cons v vs =>
      have := ih (v :: vs) mid post h
      simp only [List.cons_append, List.length_cons, putN]
      simp only [List.cons_append] at this
      rw [this]
      rfl

theorem enc_split {α : Type} {e : α → List V} {l : List α} {i : Nat} {a : α} (h : l[i]? = some a) : enc e l = enc e (l.take i) ++ (e a ++ enc e (l.drop (i + 1))) := by
  obtain ⟨hi, rfl⟩ := List.getElem?_eq_some_iff.1 h
  have : l = l.take i ++ l[i] :: l.drop (i + 1) := by rw [List.getElem_cons_drop hi, List.take_append_drop]
  conv => lhs; rw [this]
  rw [enc_append]
  rfl
theorem enc_set {α : Type} {e : α → List V} {l : List α} {i : Nat} (hi : i < l.length) (b : α) : enc e (l.set i b) = enc e (l.take i) ++ (e b ++ enc e (l.drop (i + 1))) := by
  have h : (l.set i b)[i]? = some b := by rw [List.getElem?_set_self hi]
  rw [enc_split h, List.take_set_of_le (Nat.le_refl i), List.drop_set_of_lt (Nat.lt_succ_self i)]

/-- a part of an element is written -/
theorem put_part {α : Type} {e : α → List V} {esz : Nat} {l : List α} {i : Nat} {a b : α} (he : ∀ a, (e a).length = esz) (h : l[i]? = some a) (x mid vs y : List V) (ha : e a = x ++ (mid ++ y)) (hb : e b = x ++ (vs ++ y)) (hm : mid.length = vs.length) :
    putN (0 + i * esz + x.length) vs (enc e l) = some (enc e (l.set i b)) := by
  have hi := (List.getElem?_eq_some_iff.1 h).1
  have hlen : (enc e (l.take i) ++ x).length = 0 + i * esz + x.length := by rw [List.length_append, enc_length he, List.length_take, Nat.min_eq_left (by omega)]; omega
  rw [enc_split h, enc_set hi, ha, hb, ← hlen]
  have := putN_mid (enc e (l.take i) ++ x) vs mid (y ++ enc e (l.drop (i + 1))) hm
  simp only [List.append_assoc] at this ⊢
  exact this

theorem enc_repl {α : Type} (e : α → List V) (a : α) : ∀ n : Nat, enc e (List.replicate n a) = repl n (e a) := by
  intro n
  induction n with
  | zero => rfl
  | succ n ih => simp only [List.replicate_succ, enc, repl, ih]

/-- slices of slices -/
theorem bnd_i (n : Nat) : natV (.int .i64 (n : Int)) = some n := rfl

theorem drop_enc {α : Type} (e : α → List V) : ∀ (l : List α) (k : Nat), k ≤ l.length → enc e l = enc e (l.take k) ++ enc e (l.drop k) := by
  intro l k _
  rw [← enc_append, List.take_append_drop]

/-- from k on -/
theorem slice_from {α : Type} {e : α → List V} {esz : Nat} {H : Heap} {b : Pos} {o n : Nat} {c : Cap} {l : List α} (h : Sl e esz H (.slice b o n c) l) (he : ∀ a, (e a).length = esz) {k : Nat} (hk : k ≤ l.length) :
    ∃ v', (AOp.sliceOf esz (.const (.slice b o n c)) (some (.const (.int .i64 (k : Int)))) none none).run noCall .leaf H = some (v', H) ∧ Sl e esz H v' (l.drop k) := by
  generalize hv : V.slice b o n c = v at h
  cases h with
  | nil => simp at hv
  | «at» b o c l cs own hg hc hcap =>
    obtain ⟨pre, post, rfl, rfl⟩ := hc
    have hlen : l.length - k = (l.drop k).length := by rw [List.length_drop]
    cases c with
    | exact m =>
      have hcap : l.length ≤ m := hcap
      have hb : boundsV l.length m (some (.int .i64 (k : Int))) none none = some (k, l.length, m) := by
        delta boundsV
        simp only [bnd_i, Option.bind_some, ble_iff.2 hk, if_true]
      refine ⟨.slice b (if Nat.beq m k then pre.length else pre.length + k * esz) (l.length - k) (.exact (m - k)), ?_, ?_⟩
      · show (match boundsV l.length m (some (.int .i64 (k : Int))) none none with | some (l, h, m) => _ | none => _) = _
        rw [hb]
      · rw [hlen]
        cases hmk : Nat.beq m k with
        | true =>
          rw [beqn_iff] at hmk
          have hd : l.drop k = [] := List.drop_eq_nil_iff.2 (by omega)
          rw [hd]
          exact .at b pre.length (.exact (m - k)) [] _ own hg ⟨pre, enc e l ++ post, by simp [enc], rfl⟩
        | false =>
          refine .at b _ _ (l.drop k) _ own hg ⟨pre ++ enc e (l.take k), post, ?_, ?_⟩ ?_
          · rw [drop_enc e l k hk]; simp only [List.append_assoc]
          · rw [List.length_append, enc_length he, List.length_take, Nat.min_eq_left hk]; simp
          · simp only [capOk, List.length_drop]; omega
    | opn e' =>
      have hcap : e' = esz := hcap
      subst hcap
      have hb : boundsV l.length l.length (some (.int .i64 (k : Int))) none none = some (k, l.length, l.length) := by
        delta boundsV
        simp only [bnd_i, Option.bind_some, ble_iff.2 hk, if_true]
      refine ⟨.slice b (pre.length + k * e') (l.length - k) (.opn e'), ?_, ?_⟩
      · show (match boundsV l.length l.length (some (.int .i64 (k : Int))) none none with | some (l, h, m) => _ | none => _) = _
        rw [hb]
        simp only
        rw [if_pos (beqn_iff.2 rfl)]
      · rw [hlen]
        refine .at b _ _ (l.drop k) _ own hg ⟨pre ++ enc e (l.take k), post, ?_, ?_⟩ rfl
        · rw [drop_enc e l k hk]; simp only [List.append_assoc]
        · rw [List.length_append, enc_length he, List.length_take, Nat.min_eq_left hk]

/-- up to k -/
theorem slice_upto {α : Type} {e : α → List V} {esz : Nat} {H : Heap} {b : Pos} {o n : Nat} {c : Cap} {l : List α} (h : Sl e esz H (.slice b o n c) l) {k : Nat} (hk : k ≤ l.length) :
    ∃ v', (AOp.sliceOf esz (.const (.slice b o n c)) none (some (.const (.int .i64 (k : Int)))) none).run noCall .leaf H = some (v', H) ∧ Sl e esz H v' (l.take k) := by
  generalize hv : V.slice b o n c = v at h
  cases h with
  | nil => simp at hv
  | «at» b o c l cs own hg hc hcap =>
    obtain ⟨pre, post, rfl, rfl⟩ := hc
    have hlen : k - 0 = (l.take k).length := by rw [List.length_take, Nat.min_eq_left hk]; rfl
    have hparts : pre ++ enc e l ++ post = pre ++ enc e (l.take k) ++ (enc e (l.drop k) ++ post) := by rw [drop_enc e l k hk]; simp only [List.append_assoc]
    cases c with
    | exact m =>
      have hcap : l.length ≤ m := hcap
      have hb : boundsV l.length m none (some (.int .i64 (k : Int))) none = some (0, k, m) := by
        delta boundsV
        have h0 : Nat.ble k m = true := ble_iff.2 (by omega)
        simp only [bnd_i, Option.bind_some, h0, if_true]
      refine ⟨.slice b (if Nat.beq m 0 then pre.length else pre.length + 0 * esz) (k - 0) (.exact (m - 0)), ?_, ?_⟩
      · show (match boundsV l.length m none (some (.int .i64 (k : Int))) none with | some (l, h, m) => _ | none => _) = _
        rw [hb]
      · rw [hlen]
        have : (if Nat.beq m 0 then pre.length else pre.length + 0 * esz) = pre.length := by split <;> simp
        rw [this]
        exact .at b _ _ (l.take k) _ own hg ⟨pre, _, hparts, rfl⟩ (by simp only [capOk, List.length_take]; omega)
    | opn e' =>
      have hcap : e' = esz := hcap
      subst hcap
      have hb : boundsV l.length l.length none (some (.int .i64 (k : Int))) none = some (0, k, l.length) := by
        delta boundsV
        simp only [bnd_i, Option.bind_some, ble_iff.2 hk, if_true]
      refine ⟨.slice b (pre.length + 0 * e') (k - 0) (.opn e'), ?_, ?_⟩
      · show (match boundsV l.length l.length none (some (.int .i64 (k : Int))) none with | some (l, h, m) => _ | none => _) = _
        rw [hb]
        simp only
        rw [if_pos (beqn_iff.2 rfl)]
      · rw [hlen]
        exact .at b _ _ (l.take k) _ own hg ⟨pre, _, hparts, by simp⟩ rfl

/-- up to k, and no room behind -/
theorem slice_upto3 {α : Type} {e : α → List V} {esz : Nat} {H : Heap} {b : Pos} {o n : Nat} {c : Cap} {l : List α} (h : Sl e esz H (.slice b o n c) l) {k : Nat} (hk : k ≤ l.length) :
    ∃ v', (AOp.sliceOf esz (.const (.slice b o n c)) none (some (.const (.int .i64 (k : Int)))) (some (.const (.int .i64 (k : Int))))).run noCall .leaf H = some (v', H) ∧ Sl e esz H v' (l.take k) ∧ ∃ b' o', v' = .slice b' o' k (.exact k) := by
  generalize hv : V.slice b o n c = v at h
  cases h with
  | nil => simp at hv
  | «at» b o c l cs own hg hc hcap =>
    obtain ⟨pre, post, rfl, rfl⟩ := hc
    have hlen : k - 0 = (l.take k).length := by rw [List.length_take, Nat.min_eq_left hk]; rfl
    have hparts : pre ++ enc e l ++ post = pre ++ enc e (l.take k) ++ (enc e (l.drop k) ++ post) := by rw [drop_enc e l k hk]; simp only [List.append_assoc]
    have key : ∀ cp, l.length ≤ cp → boundsV l.length cp none (some (.int .i64 (k : Int))) (some (.int .i64 (k : Int))) = some (0, k, k) := by
      intro cp hcp
      delta boundsV
      have h0 : Nat.ble k cp = true := ble_iff.2 (by omega)
      have h1 : Nat.ble k k = true := ble_iff.2 (Nat.le_refl _)
      simp only [bnd_i, Option.bind_some, h0, h1, if_true]
    have ho : (if Nat.beq k 0 then pre.length else pre.length + 0 * esz) = pre.length := by split <;> simp
    have hs : Sl e esz H (.slice b (if Nat.beq k 0 then pre.length else pre.length + 0 * esz) (k - 0) (.exact (k - 0))) (l.take k) := by
      rw [ho, hlen]
      exact .at b _ _ (l.take k) _ own hg ⟨pre, _, hparts, rfl⟩
    cases c with
    | exact m =>
      have hcap : l.length ≤ m := hcap
      refine ⟨_, ?_, hs, _, _, rfl⟩
      show (match boundsV l.length m none (some (.int .i64 (k : Int))) (some (.int .i64 (k : Int))) with | some (l, h, m) => _ | none => _) = _
      rw [key m hcap]
    | opn e' =>
      refine ⟨_, ?_, hs, _, _, rfl⟩
      show (match boundsV l.length l.length none (some (.int .i64 (k : Int))) (some (.int .i64 (k : Int))) with | some (l, h, m) => _ | none => _) = _
      rw [key l.length (Nat.le_refl _)]

/-- make -/
theorem mkSlice_run {H : Heap} {zero : List V} {esz bytes n : Nat} (hb : bytes ≤ 64) (hn : n ≤ 1000000000) (hz : zero.length = esz) :
    (AOp.mkSlice zero esz bytes (.const (.int .i64 (n : Int))) (.const (.int .i64 (n : Int)))).run noCall .leaf H = some (.slice H.next 0 n (.exact n), H.new (.cells (repl n zero) true)) := by
  have h1 : (Nat.ble n n && Nat.ble (n * bytes) 140737488355328 && Nat.ble n 4611686018427387904 && Nat.beq zero.length esz) = true := by
    simp only [Bool.and_eq_true, ble_iff, beqn_iff]
    refine ⟨⟨⟨Nat.le_refl _, ?_⟩, by omega⟩, hz⟩
    have := Nat.mul_le_mul_left n hb
    omega
  show (if (Nat.ble n n && Nat.ble (n * bytes) 140737488355328 && Nat.ble n 4611686018427387904 && Nat.beq zero.length esz) = true then _ else _) = _
  rw [if_pos h1]

/-- copy onto a slice of the same length -/
theorem copy_run {α : Type} {e : α → List V} {esz : Nat} {H : Heap} {q : Pos} {c : Cap} {v : V} {l : List α} {old : List V} (hl : Sl e esz H v l) (he : ∀ a, (e a).length = esz) (hf : ∀ a, allFlat (e a) = true) (hq : H.get q = some (.cells old true)) (ho : old.length = l.length * esz) (hlo : H.lo ≤ q.nat) :
    (AOp.copy esz (.const (.slice q 0 l.length c)) (.const v)).run noCall .leaf H = some (.int .i64 (l.length : Int), H.put q (some (.cells (enc e l) true))) := by
  have h1 : H.write q 0 (enc e l) = some (H.put q (some (.cells (enc e l) true))) := by
    unfold Heap.write
    rw [hq]
    have : (Nat.ble H.lo q.nat && allFlat (enc e l)) = true := by rw [Bool.and_eq_true]; exact ⟨ble_iff.2 hlo, enc_flat hf l⟩
    have hp : putN 0 (enc e l) old = some (enc e l) := by
      have := putN_here (enc e l) old [] (by rw [ho, enc_length he])
      simpa using this
    simp only [this, if_true, hp, Option.map_some]
  have h2 : takeN (min l.length l.length * esz) (enc e l) = some (enc e l) := by
    have := takeN_append (enc e l) []
    rw [enc_length he] at this
    simpa using this
  have h3 := hl.elems he
  show (match V.slice q 0 l.length c, elemsV H esz v with | .nilslice, some _ => _ | .slice b o m _, some (n, vs) => _ | _, _ => _) = _
  rw [h3]
  simp only [h2]
  rw [h1]
  simp

/-- append to an empty slice -/
theorem append_empty {α : Type} {e : α → List V} {esz bytes : Nat} {H : Heap} {q : Pos} {v : V} {l : List α} (hl : Sl e esz H v l) (he : ∀ a, (e a).length = esz) (hq : ∃ own, H.get q = some (.cells [] own)) (hne : l ≠ []) (hz : 0 < esz) (hb : bytes ≤ 64) (hn : l.length ≤ 1000000000) :
    appendV H esz bytes (.slice q 0 0 (.exact 0)) v = some (.slice H.next 0 l.length (.opn esz), H.new (.cells (enc e l) true)) := by
  obtain ⟨own, hq⟩ := hq
  obtain ⟨k, hk⟩ : ∃ k, l.length = k + 1 := by cases l with
    | nil => exact (hne rfl).elim
    | cons a l => exact ⟨_, rfl⟩
  have hz' : Nat.beq esz 0 = false := by
    cases e0 : Nat.beq esz 0 with
    | false => rfl
    | true => rw [beqn_iff] at e0; omega
  have h1 : Nat.ble (k + 1) 0 = false := by
    cases e0 : Nat.ble (k + 1) 0 with
    | false => rfl
    | true => rw [ble_iff] at e0; omega
  have h2 : roomOk (k + 1) bytes = true := roomOk_of hb (by omega)
  have h3 : H.load q 0 (0 * esz) = some [] := by
    unfold Heap.load
    rw [hq, Nat.zero_mul]
    rfl
  unfold appendV
  rw [hl.elems he, hk]
  simp only [hz', Bool.false_eq_true, Nat.zero_add, h1, h2, if_true, h3, List.nil_append, if_false]
theorem append_none {α : Type} {e : α → List V} {esz bytes : Nat} {H : Heap} {s v : V} (hl : Sl e esz H v ([] : List α)) (hs : isSlice s = true) : appendV H esz bytes s v = some (s, H) := by
  unfold appendV
  cases hl with
  | nil => simp only [elemsV]; rw [if_pos hs]
  | «at» b o c l cs own hg hc hk =>
    obtain ⟨pre, post, rfl, rfl⟩ := hc
    have : H.load b pre.length (0 * esz) = some [] := by
      rw [Nat.zero_mul]
      exact load_mid hg (x := []) rfl rfl rfl
    simp only [elemsV, List.length_nil, this, Option.map_some]
    rw [if_pos hs]
end Go.Abs
