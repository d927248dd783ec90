/-
  THE RELATION between the deterministic machine's memory and the model's world.
-/
import Derived.Test.YtdnkbompjhapfaaTrans
import Derived.Laws.Sem
import Derived.Laws.World
import Derived.Laws.Cells
namespace Go.Abs

theorem Pos.nat_pos (p : Pos) : 1 ≤ p.nat := by
  induction p <;> simp only [Pos.nat] <;> omega

theorem Pos.nat_succ (p : Pos) : p.succ.nat = p.nat + 1 := by
  induction p <;> simp only [Pos.nat, Pos.succ] <;> omega

theorem Pos.nat_inj : ∀ {p q : Pos}, p.nat = q.nat → p = q := by
  intro p
  induction p with
  | h => intro q h; cases q with
    | h => rfl
    | o q => have := Pos.nat_pos q; simp only [Pos.nat] at h; omega
    | i q => have := Pos.nat_pos q; simp only [Pos.nat] at h; omega
  | o p ih => intro q h; cases q with
    | h => have := Pos.nat_pos p; simp only [Pos.nat] at h; omega
    | o q => simp only [Pos.nat] at h; rw [ih (q := q) (by omega)]
    | i q => simp only [Pos.nat] at h; omega
  | i p ih => intro q h; cases q with
    | h => have := Pos.nat_pos p; simp only [Pos.nat] at h; omega
    | o q => simp only [Pos.nat] at h; omega
    | i q => simp only [Pos.nat] at h; rw [ih (q := q) (by omega)]

theorem Pos.ofNat_nat (n : Nat) : (Pos.ofNat n).nat = n + 1 := by
  induction n with
  | zero => rfl
  | succ n ih => simp only [Pos.ofNat, Pos.nat_succ, ih]

theorem Pos.ofNat_inj {m n : Nat} (h : Pos.ofNat m = Pos.ofNat n) : m = n := by
  have := congrArg Pos.nat h
  simp only [Pos.ofNat_nat] at this
  omega

namespace PT
variable {α : Type}
theorem get_leaf (p : Pos) : get p (.leaf : PT α) = none := by cases p <;> rfl
theorem get_set_same (p : Pos) (v : Option α) : ∀ t : PT α, get p (set p v t) = v := by
  induction p with
  | h => intro t; cases t <;> rfl
  | o p ih => intro t; cases t <;> exact ih _
  | i p ih => intro t; cases t <;> exact ih _
theorem get_set_ne {p q : Pos} (v : Option α) (h : p ≠ q) : ∀ t : PT α, get p (set q v t) = get p t := by
  induction p generalizing q with
  | h => intro t; cases q <;> cases t <;> first | rfl | exact absurd rfl h
  | o p ih =>
    intro t
    cases q with
    | h => cases t <;> simp only [set, get, get_leaf]
    | o q => cases t <;> simp only [set, get] <;> rw [ih (fun e => h (by rw [e]))] <;> try exact get_leaf _
    | i q => cases t <;> simp only [set, get, get_leaf]
  | i p ih =>
    intro t
    cases q with
    | h => cases t <;> simp only [set, get, get_leaf]
    | o q => cases t <;> simp only [set, get, get_leaf]
    | i q => cases t <;> simp only [set, get] <;> rw [ih (fun e => h (by rw [e]))] <;> try exact get_leaf _
theorem get_set (p q : Pos) (v : Option α) (t : PT α) [Decidable (p = q)] : get p (set q v t) = if p = q then v else get p t := by
  split
  · rename_i h; subst h; exact get_set_same _ _ _
  · rename_i h; exact get_set_ne _ h _
end PT

abbrev Phi := Pos → Option (Nat × Nat × Nat)

inductive VRel (φ : Phi) : V → Value → Prop where
  | bool (b : Bool) : VRel φ (.bool b) (.bool b)
  | int (k : IntKind) (n : Int) : VRel φ (.int k n) (.int k n)
  | str {l : List Nat} {s : ByteArray} (h : s.data.toList.map UInt8.toNat = l) : VRel φ (.str l) (.string s)
  | nilptr : VRel φ .nilptr (.pointer none)
  | ptr {b : Pos} {o B lo sz : Nat} (h : φ b = some (B, lo, sz)) : VRel φ (.ptr b o) (.pointer (some ⟨B, lo + o, none⟩))
  | nilslice : VRel φ .nilslice (.slice none 0 0)
  | exact {b : Pos} {o len c B lo sz : Nat} (h : φ b = some (B, lo, sz)) (hl : len ≤ c) : VRel φ (.slice b o len (.exact c)) (.slice (some ⟨B, lo + o, none⟩) len c)
  | opn {b : Pos} {o len c e B lo sz : Nat} (h : φ b = some (B, lo, sz)) (hl : len ≤ c) (hs : o + c * e = sz) : VRel φ (.slice b o len (.opn e)) (.slice (some ⟨B, lo + o, none⟩) len c)
  | exact0 {b : Pos} {o : Nat} (a : Addr) : VRel φ (.slice b o 0 (.exact 0)) (.slice (some a) 0 0)
  | opn0 {b : Pos} {o e : Nat} (a : Addr) : VRel φ (.slice b o 0 (.opn e)) (.slice (some a) 0 0)
  | func {f : Nat} {l l' : List V} {a a' : Array Value} (hn : l.length = a.size) (h : ∀ (i : Nat) v x, l[i]? = some v → a[i]? = some x → VRel φ v x)
      (hn' : l'.length = a'.size) (h' : ∀ (i : Nat) v x, l'[i]? = some v → a'[i]? = some x → VRel φ v x) : VRel φ (.func f l l') (.func (.func f) a a')
  | nilfunc : VRel φ .nilfunc .nilFunc
  | iface {t : Nat} {v : V} {x : Value} (h : VRel φ v x) : VRel φ (.iface t v) (.iface t x)
  | niliface : VRel φ .niliface .nilIface
  | agg {l : List V} {a : Array Value} (hn : l.length = a.size) (h : ∀ (i : Nat) v x, l[i]? = some v → a[i]? = some x → VRel φ v x) : VRel φ (.agg l) (.agg a)
  | tup {l : List V} {a : Array Value} (hn : l.length = a.size) (h : ∀ (i : Nat) v x, l[i]? = some v → a[i]? = some x → VRel φ v x) : VRel φ (.tup l) (.tuple a)

def VRs (φ : Phi) (l : List V) (a : List Value) : Prop := l.length = a.length ∧ ∀ (i : Nat) v x, l[i]? = some v → a[i]? = some x → VRel φ v x

theorem VRel.mono {φ φ' : Phi} {v : V} {x : Value} (h : VRel φ v x) (hφ : ∀ p y, φ p = some y → φ' p = some y) : VRel φ' v x := by
  induction h with
  | bool b => exact .bool b
  | int k n => exact .int k n
  | str h => exact .str h
  | nilptr => exact .nilptr
  | ptr h => exact .ptr (hφ _ _ h)
  | nilslice => exact .nilslice
  | exact h hl => exact .exact (hφ _ _ h) hl
  | opn h hl hs => exact .opn (hφ _ _ h) hl hs
  | exact0 a => exact .exact0 a
  | opn0 a => exact .opn0 a
  | func hn _ hn' _ ih ih' => exact .func hn ih hn' ih'
  | nilfunc => exact .nilfunc
  | iface _ ih => exact .iface ih
  | niliface => exact .niliface
  | agg hn _ ih => exact .agg hn ih
  | tup hn _ ih => exact .tup hn ih

theorem VRs.mono {φ φ' : Phi} {l : List V} {a : List Value} (h : VRs φ l a) (hφ : ∀ p y, φ p = some y → φ' p = some y) : VRs φ' l a :=
  ⟨h.1, fun i v x hv hx => (h.2 i v x hv hx).mono hφ⟩

theorem VRs.nil {φ : Phi} : VRs φ [] [] := ⟨rfl, fun i v x h _ => by simp at h⟩
theorem VRs.cons {φ : Phi} {v : V} {x : Value} {l : List V} {a : List Value} (h : VRel φ v x) (hl : VRs φ l a) : VRs φ (v :: l) (x :: a) := by
  refine ⟨by simp [hl.1], fun i u y hu hy => ?_⟩
  cases i with
  | zero => simp at hu hy; subst hu hy; exact h
  | succ i => exact hl.2 i u y (by simpa using hu) (by simpa using hy)
theorem VRs.head {φ : Phi} {v : V} {x : Value} {l : List V} {a : List Value} (h : VRs φ (v :: l) (x :: a)) : VRel φ v x := h.2 0 v x rfl rfl
theorem VRs.tail {φ : Phi} {v : V} {x : Value} {l : List V} {a : List Value} (h : VRs φ (v :: l) (x :: a)) : VRs φ l a :=
  ⟨by simpa using h.1, fun i u y hu hy => h.2 (i + 1) u y (by simpa using hu) (by simpa using hy)⟩
theorem VRs.append {φ : Phi} {l l' : List V} {a a' : List Value} (h : VRs φ l a) (h' : VRs φ l' a') : VRs φ (l ++ l') (a ++ a') := by
  induction l generalizing a with
  | nil => cases a with
    | nil => simpa using h'
    | cons x a => have := h.1; simp at this
  | cons v l ih => cases a with
    | nil => have := h.1; simp at this
    | cons x a => simp only [List.cons_append]; exact .cons h.head (ih h.tail)
theorem VRs.cases {φ : Phi} {v : V} {l : List V} {a : List Value} (h : VRs φ (v :: l) a) : ∃ x a', a = x :: a' ∧ VRel φ v x ∧ VRs φ l a' := by
  cases a with
  | nil => have := h.1; simp at this
  | cons x a => exact ⟨x, a, rfl, h.head, h.tail⟩
theorem VRs.cases_nil {φ : Phi} {a : List Value} (h : VRs φ [] a) : a = [] := by
  cases a with
  | nil => rfl
  | cons x a => have := h.1; simp at this

theorem VRel.agg' {φ : Phi} {l : List V} {a : List Value} (h : VRs φ l a) : VRel φ (.agg l) (.agg a.toArray) :=
  .agg (by simpa using h.1) (fun i v x hv hx => h.2 i v x hv (by simpa using hx))
theorem VRel.tup' {φ : Phi} {l : List V} {a : List Value} (h : VRs φ l a) : VRel φ (.tup l) (.tuple a.toArray) :=
  .tup (by simpa using h.1) (fun i v x hv hx => h.2 i v x hv (by simpa using hx))
theorem VRel.agg_inv {φ : Phi} {l : List V} {x : Value} (h : VRel φ (.agg l) x) : ∃ a : List Value, x = .agg a.toArray ∧ VRs φ l a := by
  cases h with
  | @agg _ a hn h => exact ⟨a.toList, by simp, by simpa using hn, fun i v x hv hx => h i v x hv (by simpa using hx)⟩
theorem VRel.tup_inv {φ : Phi} {l : List V} {x : Value} (h : VRel φ (.tup l) x) : ∃ a : List Value, x = .tuple a.toArray ∧ VRs φ l a := by
  cases h with
  | @tup _ a hn h => exact ⟨a.toList, by simp, by simpa using hn, fun i v x hv hx => h i v x hv (by simpa using hx)⟩
theorem VRel.func_inv {φ : Phi} {f : Nat} {l l' : List V} {x : Value} (h : VRel φ (.func f l l') x) :
    ∃ a a' : List Value, x = .func (.func f) a.toArray a'.toArray ∧ VRs φ l a ∧ VRs φ l' a' := by
  cases h with
  | @func _ _ _ a a' hn h hn' h' => exact ⟨a.toList, a'.toList, by simp, ⟨by simpa using hn, fun i v x hv hx => h i v x hv (by simpa using hx)⟩, by simpa using hn', fun i v x hv hx => h' i v x hv (by simpa using hx)⟩
theorem VRel.func' {φ : Phi} {f : Nat} {l l' : List V} {a a' : List Value} (h : VRs φ l a) (h' : VRs φ l' a') : VRel φ (.func f l l') (.func (.func f) a.toArray a'.toArray) :=
  .func (by simpa using h.1) (fun i v x hv hx => h.2 i v x hv (by simpa using hx)) (by simpa using h'.1) (fun i v x hv hx => h'.2 i v x hv (by simpa using hx))

/-- the cells of a value -/
theorem VRel.cells {φ : Phi} {v : V} {x : Value} (h : VRel φ v x) : VRs φ v.cells x.cells.toList := by
  cases h with
  | agg hn h => exact ⟨by simpa [V.cells, Value.cells] using hn, fun i v x hv hx => h i v x hv (by simpa [Value.cells] using hx)⟩
  | _ => exact .cons (by constructor <;> assumption) .nil

theorem VRs.takeR {φ : Phi} : ∀ (n : Nat) {l r : List V} {a : List Value}, VRs φ l a → takeN n l = some r → n ≤ a.length ∧ VRs φ r (a.take n) := by
  intro n
  induction n with
  | zero => intro l r a _ hr; simp only [takeN, Option.some.injEq] at hr; subst hr; exact ⟨Nat.zero_le _, .nil⟩
  | succ n ih =>
    intro l r a h hr
    cases l with
    | nil => simp [takeN] at hr
    | cons v l =>
      simp only [takeN, Option.map_eq_some_iff] at hr
      obtain ⟨r', hr', rfl⟩ := hr
      obtain ⟨x, a', rfl, hx, ha⟩ := h.cases
      obtain ⟨hn, hh⟩ := ih ha hr'
      exact ⟨by simp; omega, .cons hx hh⟩

theorem VRs.dropR {φ : Phi} : ∀ (n : Nat) {l r : List V} {a : List Value}, VRs φ l a → dropN n l = some r → n ≤ a.length ∧ VRs φ r (a.drop n) := by
  intro n
  induction n with
  | zero => intro l r a h hr; simp only [dropN, Option.some.injEq] at hr; subst hr; exact ⟨Nat.zero_le _, h⟩
  | succ n ih =>
    intro l r a h hr
    cases l with
    | nil => simp [dropN] at hr
    | cons v l =>
      simp only [dropN] at hr
      obtain ⟨x, a', rfl, hx, ha⟩ := h.cases
      obtain ⟨hn, hh⟩ := ih ha hr
      exact ⟨by simp; omega, hh⟩

/-- an object's cells stand at its place -/
def ORep (φ : Phi) (base : Nat) (w : World) (p : Pos) : Obj → Prop
  | .cells cs own => ∃ B lo sz c e f, φ p = some (B, lo, sz) ∧ w.heap[B]? = some (.cells c e f) ∧
      (∀ (i : Nat) v, cs[i]? = some v → ∃ x, c[lo + i]? = some x ∧ VRel φ v x) ∧ (own = true → base ≤ B ∧ lo = 0 ∧ sz = c.size) ∧ (own = false → B < base)

structure Rep (base : Nat) (w0 : World) (φ : Phi) (g : Pos → Option Obj) (w : World) : Prop where
  old : ∀ i, i < base → w.heap[i]? = w0.heap[i]?
  size : base ≤ w.heap.size
  os : w.os = w0.os
  output : w.output = w0.output
  objs : ∀ p o, g p = some o → ORep φ base w p o
  sep0 : ∀ p q cs cs' B lo sz lo' sz', p ≠ q → g p = some (.cells cs true) → g q = some (.cells cs' true) → φ p = some (B, lo, sz) → φ q = some (B, lo', sz') → False
  unfrozen : ∀ i c e f, base ≤ i → w.heap[i]? = some (.cells c e f) → f = (0, 0)

theorem Rep.sep {base : Nat} {w0 : World} {φ : Phi} {g : Pos → Option Obj} {w : World} (h : Rep base w0 φ g w) :
    ∀ p q cs cs' own B lo sz lo' sz', p ≠ q → g p = some (.cells cs true) → g q = some (.cells cs' own) → φ p = some (B, lo, sz) → φ q = some (B, lo', sz') → False := by
  intro p q cs cs' own B lo sz lo' sz' hpq hp hq h1 h2
  cases own with
  | true => exact h.sep0 p q cs cs' B lo sz lo' sz' hpq hp hq h1 h2
  | false =>
    obtain ⟨B1, _, _, _, _, _, k1, _, _, k4, _⟩ := h.objs p _ hp
    obtain ⟨B2, _, _, _, _, _, l1, _, _, _, l5⟩ := h.objs q _ hq
    rw [h1] at k1
    rw [h2] at l1
    simp at k1 l1
    have a1 := (k4 rfl).1
    have a2 := l5 rfl
    omega

theorem Rep.less {base : Nat} {w0 : World} {φ : Phi} {g g' : Pos → Option Obj} {w : World} (h : Rep base w0 φ g w) (hg : ∀ p o, g' p = some o → g p = some o) : Rep base w0 φ g' w :=
  ⟨h.old, h.size, h.os, h.output, fun p o ho => h.objs p o (hg p o ho),
    fun p q cs cs' B lo sz lo' sz' hpq hp hq => h.sep0 p q cs cs' B lo sz lo' sz' hpq (hg _ _ hp) (hg _ _ hq), h.unfrozen⟩

theorem Rep.drew {base : Nat} {w0 : World} {φ : Phi} {g : Pos → Option Obj} {w : World} (h : Rep base w0 φ g w) (n : Nat) : Rep base w0 φ g { w with drawn := n } :=
  ⟨h.old, h.size, h.os, h.output, h.objs, h.sep0, h.unfrozen⟩

/-- may block B be written by one who sees H? -/
def Wr (φ : Phi) (H : Heap) (B : Nat) : Prop :=
  ∃ p cs lo sz, H.get p = some (.cells cs true) ∧ H.lo ≤ p.nat ∧ φ p = some (B, lo, sz)

structure Frm (φ : Phi) (H : Heap) (w : World) (φ' : Phi) (H' : Heap) (w' : World) : Prop where
  ext : ∀ p, (p.nat < H.next.nat ∨ H'.next.nat ≤ p.nat) → φ' p = φ p
  size : w.heap.size ≤ w'.heap.size
  keep : ∀ B, B < w.heap.size → ¬ Wr φ H B → w'.heap[B]? = w.heap[B]?
  back : ∀ B, B < w.heap.size → Wr φ' H' B → Wr φ H B

def Fresh (φ : Phi) (H H' : Heap) : Prop := ∀ p : Pos, H.next.nat ≤ p.nat → p.nat < H'.next.nat → φ p = none

theorem Frm.refl (φ : Phi) (H : Heap) (w : World) : Frm φ H w φ H w := ⟨fun _ _ => rfl, Nat.le_refl _, fun _ _ _ => rfl, fun _ _ h => h⟩

theorem Frm.trans {φ φ₁ φ₂ : Phi} {H H₁ H₂ : Heap} {w w₁ w₂ : World} (h : Frm φ H w φ₁ H₁ w₁) (h' : Frm φ₁ H₁ w₁ φ₂ H₂ w₂)
    (hm : H.next.nat ≤ H₁.next.nat) (hm' : H₁.next.nat ≤ H₂.next.nat) : Frm φ H w φ₂ H₂ w₂ := by
  refine ⟨fun p hp => ?_, Nat.le_trans h.size h'.size, fun B hB hw => ?_, fun B hB hw => ?_⟩
  · rw [h'.ext p (by omega), h.ext p (by omega)]
  · rw [h'.keep B (Nat.lt_of_lt_of_le hB h.size) (fun hw' => hw (h.back B hB hw')), h.keep B hB hw]
  · exact h.back B hB (h'.back B (Nat.lt_of_lt_of_le hB h.size) hw)

theorem Frm.up {φ φ' : Phi} {H H' : Heap} {w w' : World} (h : Frm φ H w φ' H' w') (hf : Fresh φ H H') : ∀ p y, φ p = some y → φ' p = some y := by
  intro p y hp
  by_cases h1 : p.nat < H.next.nat ∨ H'.next.nat ≤ p.nat
  · rw [h.ext p h1]; exact hp
  · have := hf p (by omega) (by omega)
    rw [this] at hp; simp at hp

theorem Fresh.left {φ : Phi} {H H₁ H₂ : Heap} (h : Fresh φ H H₂) (hm : H₁.next.nat ≤ H₂.next.nat) : Fresh φ H H₁ := fun p h1 h2 => h p h1 (by omega)
theorem Fresh.right {φ φ₁ : Phi} {H H₁ H₂ : Heap} {w w₁ : World} (h : Fresh φ H H₂) (hf : Frm φ H w φ₁ H₁ w₁) (hm : H.next.nat ≤ H₁.next.nat) : Fresh φ₁ H₁ H₂ := fun p h1 h2 => by
  rw [hf.ext p (by omega)]
  exact h p (by omega) h2

end Go.Abs
