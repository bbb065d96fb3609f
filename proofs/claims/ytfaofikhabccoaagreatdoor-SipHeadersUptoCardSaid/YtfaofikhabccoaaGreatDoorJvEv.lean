/- Plain functions that a machine's answers come to: what commutes; conditions: none. -/
import Derived.Test.YtfaofikhabccoaaGreatDoorJvRow
import Derived.KernelRfl
namespace Go.Proofs.YtfaofikhabccoaaGreatDoor.Jv
open Go
set_option linter.unusedVariables false
set_option linter.unusedSimpArgs false
/-- What the plain function answers, the machine answers, with rounds enough. -/
def Ev {α β : Type} (o : Option α) (K : Nat → α → Option β) (r : Nat → Option β) : Prop := ∀ x, o = some x → ∃ k0, ∀ k, k0 ≤ k → r k = K k x
def somes {α : Type} : Nat → α → Option α := fun _ x => some x
section
variable {α β γ δ : Type}
theorem Ev.non {K : Nat → α → Option β} {r : Nat → Option β} : Ev (none : Option α) K r := fun _ h => by cases h
theorem Ev.leaf {K : Nat → α → Option β} {x : α} : Ev (some x) K (fun k => K k x) := fun y e => by cases e; exact ⟨0, fun _ _ => rfl⟩
theorem Ev.ok {x : α} : Ev (some x) somes (fun _ => some x) := Ev.leaf
theorem Ev.bif {K : Nat → α → Option β} {c : Bool} {a b : Option α} {r s : Nat → Option β} (h1 : Ev a K r) (h2 : Ev b K s) : Ev (bif c then a else b) K (fun k => bif c then r k else s k) := by
  cases c
  · exact h2
  · exact h1
theorem Ev.call {K : Nat → α → Option β} {o : Option γ} {T : γ → Option α} {r : Nat → Option γ} {R : Nat → γ → Option β} (h1 : Ev o somes r) (h2 : ∀ y, Ev (T y) K (fun k => R k y)) : Ev (o.bind T) K (fun k => obind (r k) (R k)) := by
  intro x hx
  cases o with
  | none => cases hx
  | some y =>
    obtain ⟨k1, h3⟩ := h1 y rfl
    obtain ⟨k2, h4⟩ := h2 y x hx
    refine ⟨max k1 k2, fun k hk => ?_⟩
    show (r k).bind (R k) = _
    rw [h3 k (by omega)]
    exact h4 k (by omega)
theorem Ev.get {K : Nat → α → Option β} {l : List γ} {j : Nat} {T : γ → Option α} {R : Nat → γ → Option β} (h : ∀ y, Ev (T y) K (fun k => R k y)) : Ev ((l[j]?).bind T) K (fun k => getK l j (R k)) := by
  intro x hx
  unfold getK
  revert hx
  cases l[j]? with
  | none => intro hx; cases hx
  | some y => intro hx; exact h y x hx
theorem Ev.getO {K : Nat → α → Option β} {x : Option γ} {T : γ → Option α} {R : Nat → γ → Option β} (h : ∀ y, Ev (T y) K (fun k => R k y)) : Ev (x.bind T) K (fun k => Jv.getO x (R k)) := by
  cases x with
  | none => intro z hz; cases hz
  | some y => exact h y
theorem Ev.chkR {K : Nat → α → Option β} {b : Bool} {a : Option α} {r : Nat → Option β} (hb : b = true) (h : Ev a K r) : Ev a K (fun k => chkR b (r k)) := by
  subst hb
  exact h
theorem Ev.sum {K : Nat → α → Option β} {T1 : γ → Option α} {T2 : δ → Option α} {R1 : Nat → γ → Option β} {R2 : Nat → δ → Option β} (h1 : ∀ y, Ev (T1 y) K (fun k => R1 k y)) (h2 : ∀ y, Ev (T2 y) K (fun k => R2 k y)) (o : γ ⊕ δ) :
    Ev (Sum.elim T1 T2 o) K (fun k => Sum.elim (R1 k) (R2 k) o) := by
  cases o with
  | inl y => exact h1 y
  | inr y => exact h2 y
theorem Ev.succ {K : α → Option β} {o : Option α} {r : Nat → Option β} (h : Ev o (fun _ => K) (fun k => r (k + 1))) : Ev o (fun _ => K) r := by
  intro x hx
  obtain ⟨k0, h1⟩ := h x hx
  refine ⟨k0 + 1, fun k hk => ?_⟩
  obtain ⟨k, rfl⟩ : ∃ j, k = j + 1 := ⟨k - 1, by omega⟩
  exact h1 k (by omega)
theorem Ev.congr {K : Nat → α → Option β} {o : Option α} {r s : Nat → Option β} (h : ∀ k, r k = s k) (h1 : Ev o K s) : Ev o K r := by
  have : r = s := funext h
  rw [this]; exact h1
theorem Ev.of_eq {K : Nat → α → Option β} {o : Option α} {r : Nat → Option β} (h : ∀ k, r k = o.bind (K k)) : Ev o K r := fun x e => ⟨0, fun k _ => by rw [h, e]; rfl⟩
/-- A loop: as many rounds as it takes. -/
def runs (B : γ → Option (γ ⊕ δ)) : Nat → γ → Option δ
  | 0, _ => none
  | n + 1, s => (B s).bind (Sum.elim (runs B n) some)
theorem runs_more {B : γ → Option (γ ⊕ δ)} : ∀ (n : Nat) (s : γ) (o : δ), runs B n s = some o → ∀ m, n ≤ m → runs B m s = some o
  | 0, _, _, h, _, _ => by cases h
  | n + 1, s, o, h, m, hm => by
    obtain ⟨m, rfl⟩ : ∃ j, m = j + 1 := ⟨m - 1, by omega⟩
    simp only [runs] at h ⊢
    cases hb : B s with
    | none => rw [hb] at h; cases h
    | some x =>
      rw [hb] at h
      cases x with
      | inl s' => exact runs_more n s' o h m (by omega)
      | inr o' => exact h
open Classical in
noncomputable def iter (B : γ → Option (γ ⊕ δ)) (s : γ) : Option δ := if h : ∃ n o, runs B n s = some o then some h.choose_spec.choose else none
theorem iter_some {B : γ → Option (γ ⊕ δ)} {s : γ} {o : δ} : iter B s = some o ↔ ∃ n, runs B n s = some o := by
  unfold iter
  constructor
  · intro h
    split at h
    · rename_i hx
      cases h
      exact ⟨_, hx.choose_spec.choose_spec⟩
    · cases h
  · rintro ⟨n, hn⟩
    have hx : ∃ n o, runs B n s = some o := ⟨n, o, hn⟩
    rw [dif_pos hx]
    have h2 := hx.choose_spec.choose_spec
    have h3 := runs_more _ _ _ hn (max n hx.choose) (by omega)
    have h4 := runs_more _ _ _ h2 (max n hx.choose) (by omega)
    rw [h3] at h4
    exact h4.symm
theorem iter_step (B : γ → Option (γ ⊕ δ)) (s : γ) : iter B s = (B s).bind (Sum.elim (iter B) some) := by
  apply Option.ext
  intro o
  rw [iter_some]
  constructor
  · rintro ⟨n, hn⟩
    cases n with
    | zero => cases hn
    | succ n =>
      simp only [runs] at hn
      cases hb : B s with
      | none => rw [hb] at hn; cases hn
      | some x =>
        rw [hb] at hn
        cases x with
        | inl s' => exact iter_some.2 ⟨n, hn⟩
        | inr o' => exact hn
  · intro h
    cases hb : B s with
    | none => rw [hb] at h; cases h
    | some x =>
      rw [hb] at h
      cases x with
      | inl s' =>
        obtain ⟨n, hn⟩ := iter_some.1 h
        exact ⟨n + 1, by simp only [runs, hb]; exact hn⟩
      | inr o' => exact ⟨1, by simp only [runs, hb]; exact h⟩
theorem Ev.iter {B : γ → Option (γ ⊕ δ)} {r : γ → Nat → Option δ} (h : ∀ s, Ev (B s) (fun k => Sum.elim (fun s' => r s' k) some) (fun k => r s (k + 1))) (s : γ) : Ev (iter B s) somes (r s) := by
  intro o ho
  obtain ⟨n, hn⟩ := iter_some.1 ho
  clear ho
  induction n generalizing s with
  | zero => cases hn
  | succ n ih =>
    simp only [runs] at hn
    cases hb : B s with
    | none => rw [hb] at hn; cases hn
    | some x =>
      rw [hb] at hn
      obtain ⟨k0, h1⟩ := h s x hb
      cases x with
      | inl s' =>
        obtain ⟨k1, h2⟩ := ih s' hn
        refine ⟨max k0 k1 + 1, fun k hk => ?_⟩
        obtain ⟨k, rfl⟩ : ∃ j, k = j + 1 := ⟨k - 1, by omega⟩
        exact (h1 k (by omega)).trans (h2 k (by omega))
      | inr o' =>
        refine ⟨k0 + 1, fun k hk => ?_⟩
        obtain ⟨k, rfl⟩ : ∃ j, k = j + 1 := ⟨k - 1, by omega⟩
        exact (h1 k (by omega)).trans hn
end
/-! ### Words for numbers -/
def iand (k : IntKind) (a b : Int) : Int := k.wrap (BitVec.ofInt k.bits a &&& BitVec.ofInt k.bits b).toNat
def ior (k : IntKind) (a b : Int) : Int := k.wrap (BitVec.ofInt k.bits a ||| BitVec.ofInt k.bits b).toNat
def ixor (k : IntKind) (a b : Int) : Int := k.wrap (BitVec.ofInt k.bits a ^^^ BitVec.ofInt k.bits b).toNat
def iandn (k : IntKind) (a b : Int) : Int := k.wrap (BitVec.ofInt k.bits a &&& ~~~(BitVec.ofInt k.bits b)).toNat
def ishl (k : IntKind) (a b : Int) : Int := k.wrap (a * 2 ^ min b.toNat k.bits)
def ishr (k : IntKind) (a b : Int) : Int := a.fdiv (2 ^ min b.toNat k.bits)
/-- A place in a code, by a number. -/
def pthF : Nat → Nat → List Bool
  | 0, _ => []
  | k + 1, n => if n ≤ 1 then [] else (n % 2 == 1) :: pthF k (n / 2)
def pth (n : Nat) : List Bool := pthF 200 n
/-! ### Numbers of bytes -/
theorem inU8_nat (x : UInt8) : inU8 (x.toNat : Int) = true := by
  have := x.toNat_lt
  simp only [inU8, Bool.and_eq_true, decide_eq_true_eq]
  omega
theorem inU8_bL (l : List UInt8) (i : Int) : inU8 (bL l i) = true := inU8_nat _
theorem inU8_ishr {a b : Int} (h : inU8 a = true) : inU8 (ishr .u8 a b) = true := by
  simp only [inU8, Bool.and_eq_true, decide_eq_true_eq] at h ⊢
  unfold ishr
  have hp : (0 : Int) < 2 ^ min b.toNat IntKind.u8.bits := Int.pow_pos (by decide)
  rw [Int.fdiv_eq_ediv_of_nonneg _ (by omega)]
  have h1 := Int.ediv_nonneg h.1 (Int.le_of_lt hp)
  have h2 : a / 2 ^ min b.toNat IntKind.u8.bits ≤ a := Int.ediv_le_self _ h.1
  omega
theorem inU8_wrap (x : Int) : inU8 (IntKind.u8.wrap x) = true := by
  have h : 0 ≤ IntKind.u8.wrap x ∧ IntKind.u8.wrap x < 256 := by
    simp only [IntKind.wrap, IntKind.signed, IntKind.bits]
    have h1 := Int.emod_nonneg x (by decide : (2 ^ 8 : Int) ≠ 0)
    have h2 := Int.emod_lt_of_pos x (by decide : (0 : Int) < 2 ^ 8)
    simp
    omega
  simp only [inU8, Bool.and_eq_true, decide_eq_true_eq]
  exact h
/-! ### Looked-at functions -/
def lookedB (E : Env) (l : List FuncId) : Bool := l.all fun f => match E.P.funcs[f]? with
  | some fn => match fn.body with
    | some c => codeOK E f c
    | none => true
  | none => true
theorem okOK_of {E : Env} {l : List FuncId} (hl : ∀ f, E.ok f = true → l.contains f = true) (h : lookedB E l = true) : OkOK E := by
  intro f fn c h1 h2 h3
  have h4 := List.all_eq_true.1 h f (by simpa using hl f h1)
  rw [h2] at h4
  simp only [h3] at h4
  exact h4
/-- A function's answer, one round later. -/
theorem callV_succ {E : Env} {k : Nat} {f : FuncId} {s : Spec} {args : List PV} : (mach E (k + 1)).call f s args = bodyI E (mach E k) f s args := rfl
theorem loopV_succ {E : Env} {k : Nat} {f : FuncId} {p : List Bool} {hd : Spec} {cs : Cut} {x : Holes hd} : loopV E (mach E (k + 1)) f p hd cs x = loopB E (mach E k) f p hd cs x := rfl
theorem Ev.again {γ δ : Type} {F : Nat → γ → Option δ} {y : γ} : Ev (some (Sum.inl y : γ ⊕ δ)) (fun k => Sum.elim (F k) some) (fun k => F k y) := fun x e => by cases e; exact ⟨0, fun _ _ => rfl⟩
theorem Ev.out {γ δ : Type} {F : Nat → γ → Option δ} {y : δ} : Ev (some (Sum.inr y : γ ⊕ δ)) (fun k => Sum.elim (F k) some) (fun _ => some y) := fun x e => by cases e; exact ⟨0, fun _ _ => rfl⟩
theorem Ev.fn {E : Env} {f : FuncId} {s : Spec} {args : List PV} {o : Option (Holes s)} {R : Mach → Option (Holes s)} (h : ∀ m, bodyI E m f s args = R m) (h1 : Ev o somes (fun k => R (mach E k))) : Ev o somes (fun k => (mach E k).call f s args) := by
  refine Ev.succ (K := some) (Ev.congr (fun k => ?_) h1)
  rw [callV_succ, h]
theorem Ev.lp {E : Env} {f : FuncId} {p : List Bool} {hd : Spec} {cs : Cut} {B : Holes hd → Option (Holes hd ⊕ Outs cs)} {R : Mach → Holes hd → Option (Outs cs)} (h : ∀ m x, loopB E m f p hd cs x = R m x)
    (h1 : ∀ x, Ev (B x) (fun k => Sum.elim (fun s' => loopV E (mach E k) f p hd cs s') some) (fun k => R (mach E k) x)) (x : Holes hd) : Ev (Jv.iter B x) somes (fun k => loopV E (mach E k) f p hd cs x) := by
  refine Ev.iter (B := B) (r := fun x k => loopV E (mach E k) f p hd cs x) (fun s => ?_) x
  refine Ev.congr (fun k => ?_) (h1 s)
  rw [loopV_succ, h]
theorem Ev.pc {E : Env} {f : FuncId} {p : List Bool} {ins : Spec} {cs : Cut} {x : Holes ins} {o : Option (Outs cs)} {R : Mach → Option (Outs cs)} (h : ∀ m, pieceV E m f p ins cs x = R m) (h1 : Ev o somes (fun k => R (mach E k))) : Ev o somes (fun k => pieceW E (mach E k) f p ins cs x) :=
  Ev.succ (K := some) (Ev.congr (fun k => h (mach E k)) h1)
end Go.Proofs.YtfaofikhabccoaaGreatDoor.Jv
