namespace Np
set_option linter.all false

abbrev By := List UInt8
/-! ## octets: what the writer and the reader do -/
def be (n v : Nat) : By := (List.range n).map fun i => UInt8.ofNat (v / 256 ^ (n - 1 - i))
structure Wr where
  s : By
  most : Nat
  e : Int
def Wr.put (W : Wr) (x : By) : Wr × Int :=
  if W.e ≠ 0 then (W, W.e) else if W.most < W.s.length + x.length then ({ W with e := 3 }, 3) else ({ W with s := W.s ++ x }, 0)
def fits (v n : Int) : Prop := 1 ≤ n ∧ n ≤ 4 ∧ v < 256 ^ n.toNat
instance {v n : Int} : Decidable (fits v n) := by unfold fits; exact inferInstance
def Wr.num (W : Wr) (v n : Int) : Wr × Int :=
  if W.e ≠ 0 then (W, W.e) else if fits v n then W.put (be n.toNat v.toNat) else (W, 2)
def Wr.patch (W : Wr) (at' v n : Int) : Wr × Int :=
  if W.e ≠ 0 then (W, W.e) else if ¬ fits v n ∨ at' < 0 ∨ W.s.length - n < at' then (W, 2)
  else ({ W with s := W.s.take at'.toNat ++ be n.toNat v.toNat ++ W.s.drop (at'.toNat + n.toNat) }, 0)
structure Rr where
  s : By
  at' : Nat
def Rr.take (r : Rr) (n : Int) : Rr × By × Int :=
  if n < 0 then (r, [], 2) else if r.s.length - r.at' < n then (r, [], 8) else ({ r with at' := r.at' + n.toNat }, (r.s.drop r.at').take n.toNat, 0)
def val (l : By) : Nat := l.foldl (fun v c => v * 256 + c.toNat) 0
def Rr.num (r : Rr) (n : Int) : Rr × Nat × Int :=
  if n < 1 ∨ 4 < n then (r, 0, 2) else let x := r.take n; (x.1, val x.2.1, x.2.2)
def Rr.seek (r : Rr) (p : Int) : Rr × Int := if p < 0 ∨ r.s.length < p then (r, 2) else ({ r with at' := p.toNat }, 0)

theorem be_length (n v : Nat) : (be n v).length = n := by simp [be]
theorem Wr.put_most (W : Wr) (x : By) : (W.put x).1.most = W.most := by unfold Wr.put; (repeat' split) <;> rfl
theorem Wr.num_most (W : Wr) (v n : Int) : (W.num v n).1.most = W.most := by unfold Wr.num; (repeat' split) <;> first | rfl | exact Wr.put_most _ _
theorem Wr.patch_most (W : Wr) (a v n : Int) : (W.patch a v n).1.most = W.most := by unfold Wr.patch; (repeat' split) <;> rfl
theorem Wr.put_len (W : Wr) (x : By) : W.s.length ≤ (W.put x).1.s.length := by unfold Wr.put; (repeat' split) <;> simp
theorem Wr.num_len (W : Wr) (v n : Int) : W.s.length ≤ (W.num v n).1.s.length := by unfold Wr.num; (repeat' split) <;> first | exact Nat.le_refl _ | exact Wr.put_len _ _
theorem Wr.patch_len (W : Wr) (a v n : Int) : (W.patch a v n).1.s.length = W.s.length := by
  unfold Wr.patch
  split
  · rfl
  · split
    · rfl
    · rename_i h
      simp only [List.length_append, List.length_take, List.length_drop, be_length]
      omega
theorem Wr.put_ok {W : Wr} {x : By} (h : (W.put x).2 = 0) : W.e = 0 ∧ W.s.length + x.length ≤ W.most ∧ (W.put x).1 = ⟨W.s ++ x, W.most, 0⟩ := by
  unfold Wr.put at h ⊢
  split at h
  · rename_i h1; exact absurd h h1
  · rename_i h1
    split at h
    · cases h
    · rename_i h2
      rw [if_neg h1, if_neg h2]
      have : W.e = 0 := Decidable.not_not.1 h1
      exact ⟨this, by omega, by simp only [this]⟩
theorem Wr.num_ok {W : Wr} {v n : Int} (h : (W.num v n).2 = 0) : W.e = 0 ∧ fits v n ∧ W.s.length + n.toNat ≤ W.most ∧ (W.num v n).1 = ⟨W.s ++ be n.toNat v.toNat, W.most, 0⟩ := by
  unfold Wr.num at h ⊢
  split at h
  · rename_i h1; exact absurd h h1
  · rename_i h1
    split at h
    · rename_i h2
      rw [if_neg h1, if_pos h2]
      obtain ⟨a, b, c⟩ := Wr.put_ok h
      exact ⟨a, h2, by rw [be_length] at b; exact b, c⟩
    · cases h
theorem val_snoc (l : By) (c : UInt8) : val (l ++ [c]) = val l * 256 + c.toNat := by simp [val]
theorem val_lt (l : By) : val l < 256 ^ l.length := by
  have key : ∀ (l : By) (a : Nat), List.foldl (fun v (c : UInt8) => v * 256 + c.toNat) a l < (a + 1) * 256 ^ l.length := by
    intro l
    induction l with
    | nil => intro a; simp
    | cons c l ih =>
      intro a
      have h1 := ih (a * 256 + c.toNat)
      have h2 : c.toNat < 256 := c.toNat_lt
      have h3 : (a * 256 + c.toNat + 1) * 256 ^ l.length ≤ ((a + 1) * 256) * 256 ^ l.length := Nat.mul_le_mul_right _ (by omega)
      simp only [List.foldl_cons, List.length_cons, Nat.pow_succ]
      calc _ < _ := h1
        _ ≤ _ := h3
        _ = _ := by rw [Nat.mul_assoc, Nat.mul_comm 256]
  have := key l 0
  simpa [val] using this
theorem val_take_succ (l : By) (i : Nat) (h : i < l.length) : val (l.take (i + 1)) = val (l.take i) * 256 + (l.getD i 0).toNat := by
  rw [List.take_succ_eq_append_getElem h, val_snoc]; simp [h]
end Np
namespace Np
set_option linter.all false

/-! ## names -/
def cutN : By → By × By × Bool
  | [] => ([], [], false)
  | k :: r => if k.toNat < 1 ∨ 63 < k.toNat ∨ r.length < k.toNat then ([], k :: r, false) else (r.take k.toNat, r.drop k.toNat, true)
def okNf : Nat → By → Bool
  | _, [] => true
  | 0, _ => false
  | f + 1, k :: r => if k.toNat < 1 ∨ 63 < k.toNat ∨ r.length < k.toNat then false else okNf f (r.drop k.toNat)
def okN (n : By) : Bool := okNf n.length n
theorem okNf_eq : ∀ (f : Nat) (n : By), n.length ≤ f → okNf f n = okN n := by
  have key : ∀ (f g : Nat) (n : By), n.length ≤ f → n.length ≤ g → okNf f n = okNf g n := by
    intro f
    induction f with
    | zero => intro g n h1 h2; have : n = [] := List.length_eq_zero_iff.1 (by omega); subst this; cases g <;> rfl
    | succ f ih =>
      intro g n h1 h2
      cases n with
      | nil => cases g <;> rfl
      | cons k r =>
        cases g with
        | zero => simp at h2
        | succ g =>
          simp only [okNf]
          split
          · rfl
          · simp only [List.length_cons] at h1 h2
            exact ih g _ (by simp; omega) (by simp; omega)
  intro f n h; exact key f _ n h (Nat.le_refl _)
theorem okN_nil : okN [] = true := rfl
theorem okN_cons (k : UInt8) (r : By) : okN (k :: r) = if k.toNat < 1 ∨ 63 < k.toNat ∨ r.length < k.toNat then false else okN (r.drop k.toNat) := by
  show okNf (r.length + 1) (k :: r) = _
  simp only [okNf]
  split
  · rfl
  · exact okNf_eq _ _ (by simp)
theorem cutN_ok (n : By) (h : n ≠ []) : okN n = if (cutN n).2.2 then okN (cutN n).2.1 else false := by
  cases n with
  | nil => exact absurd rfl h
  | cons k r => rw [okN_cons]; simp only [cutN]; split <;> simp
theorem cutN_lt (n : By) (h : (cutN n).2.2 = true) : (cutN n).2.1.length < n.length := by
  cases n with
  | nil => simp [cutN] at h
  | cons k r =>
    simp only [cutN] at h ⊢
    split at h
    · cases h
    · rename_i h'; rw [if_neg h']; simp; omega
def chkN (n : By) : Int := if 254 < n.length then 3 else if okN n then 0 else 4

/-! ## packing -/
structure Pk where
  w : Wr
  rests : By → Option Nat
  begun : List Nat
def updN (f : By → Option Nat) (n : By) (a : Nat) : By → Option Nat := fun m => if m = n then some a else f m
abbrev Pk.put (p : Pk) (x : By) : Pk × Int := ({ p with w := (p.w.put x).1 }, (p.w.put x).2)
abbrev Pk.num (p : Pk) (v n : Int) : Pk × Int := ({ p with w := (p.w.num v n).1 }, (p.w.num v n).2)
def Pk.nameF : Nat → Pk → By → Pk × Int
  | _, p, [] => p.put [0]
  | 0, p, _ => (p, 0)
  | f + 1, p, k :: r => match p.rests (k :: r) with
    | some a => p.num (49152 + a) 2
    | none =>
      let x := p.w.put (k :: r.take k.toNat)
      if x.2 ≠ 0 then ({ p with w := x.1 }, x.2)
      else Pk.nameF f { p with w := x.1, rests := if p.w.s.length < 16384 then updN p.rests (k :: r) p.w.s.length else p.rests } (r.drop k.toNat)
theorem Pk.nameF_some {f : Nat} {p : Pk} {k : UInt8} {r : By} {a : Nat} (h : p.rests (k :: r) = some a) : Pk.nameF (f + 1) p (k :: r) = ({ p with w := (p.w.num (49152 + a) 2).1 }, (p.w.num (49152 + a) 2).2) := by
  rw [Pk.nameF, h]
theorem Pk.nameF_none {f : Nat} {p : Pk} {k : UInt8} {r : By} (h : p.rests (k :: r) = none) : Pk.nameF (f + 1) p (k :: r) =
    if (p.w.put (k :: r.take k.toNat)).2 ≠ 0 then ({ p with w := (p.w.put (k :: r.take k.toNat)).1 }, (p.w.put (k :: r.take k.toNat)).2)
    else Pk.nameF f { p with w := (p.w.put (k :: r.take k.toNat)).1, rests := if p.w.s.length < 16384 then updN p.rests (k :: r) p.w.s.length else p.rests } (r.drop k.toNat) := by
  rw [Pk.nameF, h]
def Pk.ready (p : Pk) (n : By) : Int := if p.w.e ≠ 0 then p.w.e else chkN n
def Pk.name (p : Pk) (n : By) : Pk × Int := if p.ready n ≠ 0 then (p, p.ready n) else p.nameF n.length n
def Pk.plain (p : Pk) (n : By) : Pk × Int := if p.ready n ≠ 0 then (p, p.ready n) else p.put (n ++ [0])
def Pk.begin (p : Pk) : Pk × Int × Int :=
  let x := p.w.num 0 2
  if x.2 ≠ 0 then ({ p with w := x.1 }, 0, x.2) else ({ p with w := x.1, begun := p.begun ++ [p.w.s.length] }, p.w.s.length, 0)
def Pk.fin (p : Pk) (a : Int) : Pk × Int :=
  if p.w.e ≠ 0 then (p, p.w.e)
  else match p.begun.getLast? with
    | some c => if (c : Int) = a then ({ p with begun := p.begun.dropLast, w := (p.w.patch a (p.w.s.length - a - 2) 2).1 }, (p.w.patch a (p.w.s.length - a - 2) 2).2) else (p, 9)
    | none => (p, 9)
def sizeN (n : By) : Int := if chkN n ≠ 0 then 0 else n.length + 1
theorem Pk.ready_ok {p : Pk} {n : By} (h : p.ready n = 0) : n.length ≤ 254 := by
  unfold Pk.ready at h
  split at h
  · exact absurd h (by assumption)
  · unfold chkN at h
    split at h
    · cases h
    · omega
end Np
namespace Np
set_option linter.all false
/-! ## reading a name -/
structure RdS where
  at' : Nat
  begun : Nat
  fin : Int
  jumps : Nat
  out : By
  e : Int
def RdS.leave (t : RdS) (n : Nat) : RdS := { t with fin := if t.fin < 0 then t.at' + n else t.fin }
def RdS.label (s : By) (t : RdS) (c : Nat) : RdS × Bool :=
  if s.length < t.at' + 1 + c then ({ t with e := 8 }, false)
  else if 254 < t.out.length + (1 + c) then ({ t with out := t.out ++ (s.drop t.at').take (1 + c), at' := t.at' + (1 + c), e := 3 }, false)
  else ({ t with out := t.out ++ (s.drop t.at').take (1 + c), at' := t.at' + (1 + c) }, true)
def RdS.jump (s : By) (t : RdS) (h : Nat) : RdS × Bool :=
  if s.length < t.at' + 2 then ({ t with e := 8 }, false)
  else if t.begun ≤ h * 256 + (s.getD (t.at' + 1) 0).toNat then ({ t with e := 4 }, false)
  else ({ t.leave 2 with at' := h * 256 + (s.getD (t.at' + 1) 0).toNat, begun := h * 256 + (s.getD (t.at' + 1) 0).toNat, jumps := t.jumps + 1 }, true)
def RdS.step (s : By) (fo : Bool) (t : RdS) : RdS × Bool :=
  if s.length ≤ t.at' then ({ t with e := 8 }, false)
  else
    let c := (s.getD t.at' 0).toNat
    if c = 0 then (t.leave 1, false)
    else if c < 64 then t.label s c
    else if 192 ≤ c then (if fo = true then t.jump s (c - 192) else ({ t with e := 4 }, false))
    else ({ t with e := 4 }, false)
def RdS.run (s : By) (fo : Bool) : Nat → RdS → RdS
  | 0, t => t
  | f + 1, t => if (t.step s fo).2 then RdS.run s fo f (t.step s fo).1 else (t.step s fo).1
def RdS.mu (s : By) (t : RdS) : Nat := t.begun * (s.length + 1) + (s.length - t.at')
def RdS.told (t : RdS) : By × Int × Int := if t.e ≠ 0 then ([], 0, t.e) else (t.out, t.fin, 0)
def rdInit (a : Nat) : RdS := ⟨a, a, -1, 0, [], 0⟩
def rdName (s : By) (a : Int) (fo : Bool) : By × Int × Int :=
  if a < 0 ∨ s.length < a then ([], 0, 2) else ((rdInit a.toNat).run s fo ((rdInit a.toNat).mu s + 1)).told
structure ROk (s : By) (t : RdS) : Prop where
  a : t.at' ≤ s.length
  b : t.begun ≤ s.length
  l : s.length ≤ 1099511627776
  o : t.out.length ≤ 400
  j : t.jumps + t.begun ≤ s.length
theorem ROk.step {s : By} {t : RdS} (h : ROk s t) (ho : t.out.length ≤ 254) (fo : Bool) : ROk s (t.step s fo).1 ∧ ((t.step s fo).2 = true → (t.step s fo).1.mu s < t.mu s ∧ (t.step s fo).1.out.length ≤ 254) := by
  obtain ⟨h1, h2, h3, h4, h5⟩ := h
  unfold RdS.step
  split
  · exact ⟨⟨h1, h2, h3, h4, h5⟩, fun h => by cases h⟩
  · rename_i hlt
    simp only
    split
    · exact ⟨⟨h1, h2, h3, h4, h5⟩, fun h => by cases h⟩
    · split
      · rename_i c0 c1
        unfold RdS.label
        split
        · exact ⟨⟨h1, h2, h3, h4, h5⟩, fun h => by cases h⟩
        · split
          · exact ⟨⟨by simp only; omega, h2, h3, by simp only [List.length_append, List.length_take, List.length_drop]; omega, h5⟩, fun h => by cases h⟩
          · refine ⟨⟨by simp only; omega, h2, h3, by simp only [List.length_append, List.length_take, List.length_drop]; omega, h5⟩, fun _ => ⟨?_, by simp only [List.length_append, List.length_take, List.length_drop]; omega⟩⟩
            unfold RdS.mu; simp only; omega
      · split
        · split
          · unfold RdS.jump
            split
            · exact ⟨⟨h1, h2, h3, h4, h5⟩, fun h => by cases h⟩
            · split
              · exact ⟨⟨h1, h2, h3, h4, h5⟩, fun h => by cases h⟩
              · rename_i h6
                refine ⟨⟨by simp only; omega, by simp only; omega, h3, h4, by simp only; omega⟩, fun _ => ⟨?_, ho⟩⟩
                unfold RdS.mu; simp only [RdS.leave]
                generalize ((s.getD t.at' 0).toNat - 192) * 256 + (s.getD (t.at' + 1) 0).toNat = x at *
                have : x * (s.length + 1) + (s.length + 1) ≤ t.begun * (s.length + 1) := by
                  have := Nat.mul_le_mul_right (s.length + 1) (show x + 1 ≤ t.begun by omega)
                  rw [Nat.add_mul] at this; omega
                omega
          · exact ⟨⟨h1, h2, h3, h4, h5⟩, fun h => by cases h⟩
        · exact ⟨⟨h1, h2, h3, h4, h5⟩, fun h => by cases h⟩
end Np
namespace Np
set_option linter.all false
/-! ## addresses -/
structure Ad where
  six : Bool
  hi : Nat
  lo : Nat
structure OkA (a : Ad) : Prop where
  hi : a.hi ≤ 18446744073709551615
  lo : a.lo ≤ 18446744073709551615
def adChk (a : Ad) : Int := if a.six = false ∧ (a.hi ≠ 0 ∨ 4294967296 ≤ a.lo) then 2 else 0
def adOct (a : Ad) : By × Int := if adChk a ≠ 0 then ([], adChk a) else if a.six = false then (be 4 a.lo, 0) else (be 8 a.hi ++ be 8 a.lo, 0)
def adOf (s : By) : Ad × Int := if s.length = 4 then (⟨false, 0, val s⟩, 0) else if s.length = 16 then (⟨true, val (s.take 8), val (s.drop 8)⟩, 0) else (⟨false, 0, 0⟩, 2)
end Np
namespace Np
set_option linter.all false
/-! ## data -/
structure What where
  text : By
  addr : Int
  names : Int
  plain : Bool
  numsFirst : Bool
  nums : Int
  wide : Int
  texts : Bool
  raw : Bool
def wlist : List (Int × What) :=
  [(1, ⟨[65], 4, 0, false, false, 0, 0, false, false⟩), (28, ⟨[65, 65, 65, 65], 16, 0, false, false, 0, 0, false, false⟩),
   (2, ⟨[78, 83], 0, 1, false, false, 0, 0, false, false⟩), (5, ⟨[67, 78, 65, 77, 69], 0, 1, false, false, 0, 0, false, false⟩),
   (12, ⟨[80, 84, 82], 0, 1, false, false, 0, 0, false, false⟩), (6, ⟨[83, 79, 65], 0, 2, false, false, 5, 4, false, false⟩),
   (15, ⟨[77, 88], 0, 1, false, true, 1, 2, false, false⟩), (33, ⟨[83, 82, 86], 0, 1, true, true, 3, 2, false, false⟩),
   (16, ⟨[84, 88, 84], 0, 0, false, false, 0, 0, true, false⟩), (41, ⟨[79, 80, 84], 0, 0, false, false, 0, 0, false, true⟩)]
def findW : List (Int × What) → Int → Option What
  | [], _ => none
  | (a, w) :: l, t => if t = a then some w else findW l t
def rawW : What := ⟨[], 0, 0, false, false, 0, 0, false, true⟩
def whatOf (t : Int) : What := (findW wlist t).getD rawW
def knownT (t : Int) : Bool := (findW wlist t).isSome
def mayT (t : Int) : Prop := 0 ≤ t ∧ t ≤ 65535
instance {t : Int} : Decidable (mayT t) := by unfold mayT; exact inferInstance
structure Dat where
  addr : Ad
  name : By
  mail : By
  n0 : Nat
  n1 : Nat
  n2 : Nat
  n3 : Nat
  n4 : Nat
  texts : List By
  raw : By
def Dat.num (d : Dat) (i : Nat) : Nat := [d.n0, d.n1, d.n2, d.n3, d.n4].getD i 0
structure OkD (d : Dat) : Prop where
  addr : OkA d.addr
  name : d.name.length ≤ 1048576
  mail : d.mail.length ≤ 1048576
  nums : ∀ i, d.num i ≤ 4294967295
  texts : d.texts.length ≤ 1048576
  each : ∀ x ∈ d.texts, x.length ≤ 1048576
  raw : d.raw.length ≤ 1048576
/-- there is nothing that a type does not have, and all that it has -/
structure Bare (w : What) (d : Dat) : Prop where
  name : w.names < 1 → d.name = []
  mail : w.names < 2 → d.mail = []
  raw : w.raw = false → d.raw = []
  texts : w.texts = true ↔ d.texts ≠ []
  noaddr : w.addr = 0 → d.addr = ⟨false, 0, 0⟩
  addr : 0 < w.addr → adChk d.addr = 0 ∧ (d.addr.six = true ↔ w.addr = 16)
  nums : ∀ i : Nat, i < 5 → (w.nums ≤ i → d.num i = 0) ∧ (w.wide = 2 → d.num i ≤ 65535)
open Classical in
noncomputable def ckD (t : Int) (d : Dat) : Int :=
  if ¬ mayT t ∨ ¬ Bare (whatOf t) d then 2 else if chkN d.name ≠ 0 then chkN d.name else if chkN d.mail ≠ 0 then chkN d.mail
  else if ∃ x ∈ d.texts, 255 < x.length then 3 else 0
def namesOf (w : What) (d : Dat) : List By := [d.name, d.mail].take w.names.toNat
def szW (w : What) (d : Dat) : Int := w.addr + w.nums * w.wide + d.raw.length + ((namesOf w d).map sizeN).sum + (d.texts.map fun x => (1 + x.length : Int)).sum
noncomputable def szD (t : Int) (d : Dat) : Int := if ckD t d ≠ 0 then 0 else szW (whatOf t) d
noncomputable def chkD (t : Int) (d : Dat) : Int := if ckD t d ≠ 0 then ckD t d else if 65535 < szD t d then 3 else 0
structure OkW (w : What) : Prop where
  addr : 0 ≤ w.addr ∧ w.addr ≤ 16
  names : 0 ≤ w.names ∧ w.names ≤ 2
  nums : 0 ≤ w.nums ∧ w.nums ≤ 5
  wide : 0 ≤ w.wide ∧ w.wide ≤ 4
theorem findW_ok {t : Int} {w : What} (h : findW wlist t = some w) : OkW w := by
  simp only [wlist, findW] at h
  repeat' split at h
  all_goals first | cases h | skip
  all_goals exact ⟨by decide, by decide, by decide, by decide⟩
theorem whatOf_ok (t : Int) : OkW (whatOf t) := by
  unfold whatOf
  cases h : findW wlist t with
  | none => exact ⟨by decide, by decide, by decide, by decide⟩
  | some w => exact findW_ok h
end Np
namespace Np
set_option linter.all false
/-! ## putting data -/
def numsP (W : What) (d : Dat) (p : Pk) (k : Nat) : Pk := (List.range k).foldl (fun p i => (p.num (d.num i : Nat) W.wide).1) p
def namesP (W : What) (p : Pk) (l : List By) : Pk := l.foldl (fun p n => if W.plain = true then (p.plain n).1 else (p.name n).1) p
def textsP (p : Pk) (l : List By) : Pk := l.foldl (fun p s => ((p.num s.length 1).1.put s).1) p
noncomputable def putD (p : Pk) (t : Int) (d : Dat) : Pk × Int :=
  if chkD t d ≠ 0 then (p, chkD t d) else
    let W := whatOf t
    let p1 := if 0 < W.addr then (p.put (adOct d.addr).1).1 else p
    let p2 := if W.numsFirst = true then numsP W d p1 W.nums.toNat else p1
    let p3 := namesP W p2 (namesOf W d)
    let p4 := if W.numsFirst = true then p3 else numsP W d p3 W.nums.toNat
    let p5 := textsP p4 d.texts
    let p6 := (p5.put d.raw).1
    (p6, p6.w.e)
theorem numsP_succ (W : What) (d : Dat) (p : Pk) (k : Nat) : numsP W d p (k + 1) = ((numsP W d p k).num (d.num k : Nat) W.wide).1 := by
  simp [numsP, List.range_succ]
end Np
namespace Np
set_option linter.all false
/-! ## reading data -/
structure Cu where
  r : Rr
  s : By
  e : Int
  all : By
def Cu.take (c : Cu) (n : Int) : Cu × By := if c.e ≠ 0 then (c, []) else ({ c with r := (c.r.take n).1, e := (c.r.take n).2.2 }, (c.r.take n).2.1)
def Cu.num (c : Cu) (n : Int) : Cu × Nat := if c.e ≠ 0 then (c, 0) else ({ c with r := (c.r.num n).1, e := (c.r.num n).2.2 }, (c.r.num n).2.1)
def Cu.name (c : Cu) (fo : Bool) : Cu × By :=
  if c.e ≠ 0 then (c, [])
  else if (rdName c.all c.r.at' fo).2.2 ≠ 0 then ({ c with e := (rdName c.all c.r.at' fo).2.2 }, [])
  else if c.s.length < (rdName c.all c.r.at' fo).2.1 then ({ c with e := 8 }, [])
  else if (c.r.seek (rdName c.all c.r.at' fo).2.1).2 ≠ 0 then ({ c with r := (c.r.seek (rdName c.all c.r.at' fo).2.1).1, e := (c.r.seek (rdName c.all c.r.at' fo).2.1).2 }, [])
  else ({ c with r := (c.r.seek (rdName c.all c.r.at' fo).2.1).1, e := 0 }, (rdName c.all c.r.at' fo).1)
def Dat.setNum (d : Dat) (i v : Nat) : Dat :=
  if i = 0 then { d with n0 := v } else if i = 1 then { d with n1 := v } else if i = 2 then { d with n2 := v } else if i = 3 then { d with n3 := v } else { d with n4 := v }
/-- numbers read, one behind the other -/
def Cu.nums (wide : Int) : Nat → Cu × Dat → Cu × Dat
  | 0, x => x
  | k + 1, x => let y := Cu.nums wide k x; ((y.1.num wide).1, y.2.setNum k (y.1.num wide).2)
def Dat.zero : Dat := ⟨⟨false, 0, 0⟩, [], [], 0, 0, 0, 0, 0, [], []⟩
def Dat.setName (d : Dat) (i : Nat) (n : By) : Dat := if i = 0 then { d with name := n } else { d with mail := n }
def Cu.names (fo : Bool) : Nat → Cu × Dat → Cu × Dat
  | 0, x => x
  | k + 1, x => let y := Cu.names fo k x; ((y.1.name fo).1, y.2.setName k (y.1.name fo).2)
def Cu.left (c : Cu) : Int := c.r.s.length - c.r.at'
def Cu.text (c : Cu) : Cu × By := let x := c.num 1; x.1.take x.2
/-- texts, until none is left, or an error -/
def Cu.texts : Nat → Bool → Cu → List By → Cu × List By
  | 0, _, c, l => (c, l)
  | f + 1, more, c, l => if more = true ∧ c.e = 0 then Cu.texts f (decide (0 < c.text.1.left)) c.text.1 (l ++ [c.text.2]) else (c, l)
def Cu.data (c : Cu) (W : What) : Cu × Dat :=
  let x1 : Cu × Dat := if 0 < W.addr then ((c.take W.addr).1, { Dat.zero with addr := (adOf (c.take W.addr).2).1 }) else (c, Dat.zero)
  let x2 := if W.numsFirst = true then Cu.nums W.wide W.nums.toNat x1 else x1
  let x3 := Cu.names (!W.plain) W.names.toNat x2
  let x4 := if W.numsFirst = true then x3 else Cu.nums W.wide W.nums.toNat x3
  let y := Cu.texts (x4.1.r.s.length + 2) W.texts x4.1 []
  let d5 := { x4.2 with texts := y.2 }
  if W.raw = true then ((y.1.take y.1.left).1, { d5 with raw := (y.1.take y.1.left).2 }) else (y.1, d5)
end Np
namespace Np
set_option linter.all false
theorem Rr.num_le (r : Rr) (n : Int) : (r.num n).2.1 ≤ 4294967295 := by
  unfold Rr.num
  split
  · simp
  · rename_i h
    simp only
    have h1 := val_lt (r.take n).2.1
    have h2 : (r.take n).2.1.length ≤ 4 := by
      unfold Rr.take
      split
      · simp
      · split
        · simp
        · simp; omega
    have h3 : (256 : Nat) ^ (r.take n).2.1.length ≤ 256 ^ 4 := Nat.pow_le_pow_right (by decide) h2
    have h4 : (256 : Nat) ^ 4 = 4294967296 := by decide
    omega
theorem Cu.num_le (c : Cu) (n : Int) : (c.num n).2 ≤ 4294967295 := by
  unfold Cu.num
  split
  · simp
  · exact Rr.num_le _ _
theorem Rr.take_at (r : Rr) (n : Int) : (r.take n).1.s = r.s ∧ ((r.take n).2.2 = 0 → 0 ≤ n ∧ (r.take n).1.at' = r.at' + n.toNat ∧ n ≤ r.s.length - r.at') := by
  unfold Rr.take
  split
  · exact ⟨rfl, fun h => by cases h⟩
  · split
    · exact ⟨rfl, fun h => by cases h⟩
    · exact ⟨rfl, fun _ => ⟨by omega, rfl, by omega⟩⟩
theorem Cu.take_at (c : Cu) (n : Int) : (c.take n).1.r.s = c.r.s ∧ ((c.take n).1.e = 0 → c.e = 0 ∧ (c.take n).1.r.at' = c.r.at' + n.toNat ∧ 0 ≤ n ∧ n ≤ c.r.s.length - c.r.at') := by
  unfold Cu.take
  split
  · exact ⟨rfl, fun h => absurd h (by assumption)⟩
  · obtain ⟨h1, h2⟩ := Rr.take_at c.r n
    refine ⟨h1, fun h => ?_⟩
    obtain ⟨h3, h4, h5⟩ := h2 h
    exact ⟨by omega, h4, h3, h5⟩
theorem Cu.num_at (c : Cu) (n : Int) : (c.num n).1.r.s = c.r.s ∧ ((c.num n).1.e = 0 → c.e = 0 ∧ (c.num n).1.r.at' = c.r.at' + n.toNat ∧ 1 ≤ n ∧ n ≤ c.r.s.length - c.r.at') := by
  unfold Cu.num
  split
  · exact ⟨rfl, fun h => absurd h (by assumption)⟩
  · unfold Rr.num
    split
    · exact ⟨rfl, fun h => by cases h⟩
    · obtain ⟨h1, h2⟩ := Rr.take_at c.r n
      refine ⟨h1, fun h => ?_⟩
      obtain ⟨h3, h4, h5⟩ := h2 h
      exact ⟨by omega, h4, by omega, h5⟩
theorem Cu.text_at (c : Cu) : c.text.1.r.s = c.r.s ∧ (c.text.1.e = 0 → c.e = 0 ∧ c.r.at' + 1 ≤ c.text.1.r.at' ∧ c.text.1.r.at' ≤ c.r.s.length) := by
  unfold Cu.text
  simp only
  obtain ⟨h1, h2⟩ := Cu.num_at c 1
  obtain ⟨h3, h4⟩ := Cu.take_at (c.num 1).1 (c.num 1).2
  refine ⟨h3.trans h1, fun h => ?_⟩
  obtain ⟨h5, h6, h7, h8⟩ := h4 h
  obtain ⟨h9, h10, h11, h12⟩ := h2 h5
  rw [h1] at h8
  exact ⟨h9, by rw [h6, h10]; simp, by rw [h6]; omega⟩
end Np
namespace Np
theorem texts_none' (f : Nat) (c : Cu) (l : List By) : Cu.texts f false c l = (c, l) := by cases f <;> simp [Cu.texts]
end Np
namespace Np
set_option linter.all false
/-! ## names that stand in octets, and their reading -/
inductive Nm (s : By) (fo : Bool) : Nat → Nat → By → Nat → Prop
  | root {lo a : Nat} : s[a]? = some 0 → Nm s fo lo a [] (a + 1)
  | label {lo a e : Nat} {k : UInt8} {r : By} : s[a]? = some k → 1 ≤ k.toNat → k.toNat ≤ 63 → k.toNat ≤ r.length →
      (∀ i, i < k.toNat → s[a + 1 + i]? = r[i]?) → Nm s fo lo (a + 1 + k.toNat) (r.drop k.toNat) e → Nm s fo lo a (k :: r) e
  | ptr {lo a p e : Nat} {h l : UInt8} {n : By} : fo = true → s[a]? = some h → s[a + 1]? = some l → 192 ≤ h.toNat → p = (h.toNat - 192) * 256 + l.toNat → p < lo →
      Nm s fo p p n e → Nm s fo lo a n (a + 2)
theorem some_lt {α : Type} {s : List α} {a : Nat} {c : α} (h : s[a]? = some c) : a < s.length := by
  rcases Nat.lt_or_ge a s.length with h' | h'
  · exact h'
  · rw [List.getElem?_eq_none h'] at h; cases h
theorem some_getD {s : By} {a : Nat} {c : UInt8} (h : s[a]? = some c) : s.getD a 0 = c := by simp [List.getD_eq_getElem?_getD, h]
theorem Nm.mono {s : By} {fo : Bool} {lo a e lo' : Nat} {n : By} (h : Nm s fo lo a n e) (hl : lo ≤ lo') : Nm s fo lo' a n e := by
  induction h generalizing lo' with
  | root h => exact .root h
  | label h1 h2 h3 h4 h5 h6 ih => exact .label h1 h2 h3 h4 h5 (ih hl)
  | ptr h1 h2 h3 h4 h5 h6 h7 ih => exact .ptr h1 h2 h3 h4 h5 (by omega) h7
theorem Nm.le {s : By} {fo : Bool} {lo a e : Nat} {n : By} (h : Nm s fo lo a n e) : a < e ∧ e ≤ s.length := by
  induction h with
  | root h => have := some_lt h; omega
  | label h1 h2 h3 h4 h5 h6 ih => omega
  | ptr h1 h2 h3 h4 h5 h6 h7 ih => have := some_lt h3; omega
theorem run_Nm {s : By} {fo : Bool} {lo a e : Nat} {n : By} (h : Nm s fo lo a n e) : ∀ (t : RdS) (f : Nat), t.at' = a → t.begun = lo → t.e = 0 → ROk s t →
    t.out.length + n.length ≤ 254 → t.mu s < f →
    (RdS.run s fo f t).e = 0 ∧ (RdS.run s fo f t).out = t.out ++ n ∧ (RdS.run s fo f t).fin = (if t.fin < 0 then (e : Int) else t.fin) := by
  induction h with
  | @root lo a h1 =>
    intro t f ha hb he hk ho hf
    obtain ⟨f, rfl⟩ : ∃ m, f = m + 1 := ⟨f - 1, by omega⟩
    have hlt := some_lt h1
    have hc := some_getD h1
    have hs : t.step s fo = (t.leave 1, false) := by
      unfold RdS.step
      rw [if_neg (by omega)]
      simp only [ha, hc]
      rw [if_pos (by decide)]
    rw [RdS.run, hs]
    simp only [Bool.false_eq_true, if_false, RdS.leave, he, List.append_nil, true_and, ha]
    split <;> simp
  | @label lo a e k r h1 h2 h3 h4 h5 h6 ih =>
    intro t f ha hb he hk ho hf
    obtain ⟨f, rfl⟩ : ∃ m, f = m + 1 := ⟨f - 1, by omega⟩
    have hlt := some_lt h1
    have hc := some_getD h1
    have hle := h6.le
    simp only [List.length_cons] at ho
    have hd : (s.drop a).take (1 + k.toNat) = k :: r.take k.toNat := by
      apply List.ext_getElem?
      intro i
      rw [List.getElem?_take]
      split
      · rename_i hi
        rw [List.getElem?_drop]
        cases i with
        | zero => simpa using h1
        | succ i =>
          rw [show a + (i + 1) = a + 1 + i by omega, h5 i (by omega)]
          simp [List.getElem?_take, show i < k.toNat by omega]
      · rw [List.getElem?_eq_none]; simp; omega
    have hs : t.step s fo = ({ t with out := t.out ++ (k :: r.take k.toNat), at' := a + (1 + k.toNat) }, true) := by
      unfold RdS.step
      rw [if_neg (by omega)]
      simp only [ha, hc]
      rw [if_neg (by omega), if_pos (by omega)]
      unfold RdS.label
      rw [if_neg (by omega), if_neg (by omega), ha, hd]
    have hst := ROk.step hk (by omega) fo
    rw [hs] at hst
    have hmu := Nat.lt_of_lt_of_le (hst.2 rfl).1 (Nat.le_of_lt_succ hf)
    rw [RdS.run, hs]
    simp only [if_true]
    obtain ⟨g1, g2, g3⟩ := ih { t with out := t.out ++ (k :: r.take k.toNat), at' := a + (1 + k.toNat) } f (by simp only; omega) hb he hst.1 (by simp; omega) hmu
    refine ⟨g1, ?_, g3⟩
    rw [g2]
    simp
  | @ptr lo a p e h l n h0 h1 h2 h3 h4 h5 h6 ih =>
    intro t f ha hb he hk ho hf
    obtain ⟨f, rfl⟩ : ∃ m, f = m + 1 := ⟨f - 1, by omega⟩
    have hlt := some_lt h2
    have hc := some_getD h1
    have hc2 := some_getD h2
    have hs : t.step s fo = ({ t.leave 2 with at' := p, begun := p, jumps := t.jumps + 1 }, true) := by
      unfold RdS.step
      rw [if_neg (by omega)]
      simp only [ha, hc]
      rw [if_neg (by omega), if_neg (by omega), if_pos (by omega), if_pos h0]
      unfold RdS.jump
      rw [if_neg (by omega), ha, hc2, ← h4, if_neg (by omega)]
    have hst := ROk.step hk (by omega) fo
    rw [hs] at hst
    have hmu := Nat.lt_of_lt_of_le (hst.2 rfl).1 (Nat.le_of_lt_succ hf)
    rw [RdS.run, hs]
    simp only [if_true]
    obtain ⟨g1, g2, g3⟩ := ih { t.leave 2 with at' := p, begun := p, jumps := t.jumps + 1 } f rfl rfl he hst.1 ho hmu
    refine ⟨g1, g2, ?_⟩
    rw [g3]
    simp only [RdS.leave, ha]
    split
    · rw [if_neg (by omega)]; simp
    · rfl
theorem rdName_Nm {s : By} {fo : Bool} {a e : Nat} {n : By} (h : Nm s fo a a n e) (hn : n.length ≤ 254) (hs : s.length ≤ 1099511627776) : rdName s a fo = (n, (e : Int), 0) := by
  have hle := h.le
  obtain ⟨g1, g2, g3⟩ := run_Nm h (rdInit a) ((rdInit a).mu s + 1) rfl rfl rfl ⟨by simp [rdInit]; omega, by simp [rdInit]; omega, hs, by simp [rdInit], by simp [rdInit]; omega⟩ (by simpa [rdInit] using hn) (by omega)
  unfold rdName
  rw [if_neg (by omega)]
  simp only [Int.toNat_natCast]
  unfold RdS.told
  rw [if_neg (by simpa using g1), g2, g3]
  simp [rdInit]

/-! ## what a packer has put can be read -/
/-- s has what a packer has put, but for lengths that are begun -/
def Pk.Ext (p : Pk) (s : By) : Prop := p.w.s.length ≤ s.length ∧ ∀ i, i < p.w.s.length → (∀ a ∈ p.begun, i ≠ a ∧ i ≠ a + 1) → s[i]? = p.w.s[i]?
structure Pk.Inv (p : Pk) : Prop where
  ns : ∀ n a, p.rests n = some a → a < 16384 ∧ a < p.w.s.length ∧ ∀ s, p.Ext s → ∃ e, Nm s true a a n e
  pend : ∀ a ∈ p.begun, a + 2 ≤ p.w.s.length
  room : p.w.s.length ≤ p.w.most
theorem put_ext {p : Pk} {x s : By} (hp : ∀ a ∈ p.begun, a + 2 ≤ p.w.s.length) (h : (p.put x).2 = 0) (hs : (p.put x).1.Ext s) :
    p.Ext s ∧ ∀ i, i < x.length → s[p.w.s.length + i]? = x[i]? := by
  obtain ⟨h0, h1, h2⟩ := Wr.put_ok h
  obtain ⟨hl, hs⟩ := hs
  simp only [h2, List.length_append] at hl hs
  refine ⟨⟨by omega, fun i hi hm => ?_⟩, fun i hi => ?_⟩
  · rw [hs i (by omega) hm, List.getElem?_append_left hi]
  · rw [hs _ (by omega) (fun a ha => by have := hp a ha; omega), List.getElem?_append_right (by omega)]
    congr 1; omega
theorem okN_label {k : UInt8} {r : By} (h : okN (k :: r) = true) : 1 ≤ k.toNat ∧ k.toNat ≤ 63 ∧ k.toNat ≤ r.length ∧ okN (r.drop k.toNat) = true := by
  rw [okN_cons] at h
  split at h
  · cases h
  · exact ⟨by omega, by omega, by omega, h⟩
theorem plain_Nm {s : By} {fo : Bool} {lo : Nat} : ∀ (f : Nat) (n : By) (a : Nat), n.length ≤ f → okN n = true → (∀ i, i < n.length + 1 → s[a + i]? = (n ++ [0])[i]?) → Nm s fo lo a n (a + n.length + 1) := by
  intro f
  induction f with
  | zero =>
    intro n a hf ho h
    have : n = [] := List.length_eq_zero_iff.1 (by omega)
    subst this
    exact .root (by simpa using h 0 (by simp))
  | succ f ih =>
    intro n a hf ho h
    cases n with
    | nil => exact .root (by simpa using h 0 (by simp))
    | cons k r =>
      obtain ⟨h1, h2, h3, h4⟩ := okN_label ho
      simp only [List.length_cons] at hf h
      have hk := ih (r.drop k.toNat) (a + 1 + k.toNat) (by simp; omega) h4 (fun i hi => by
        simp only [List.length_drop] at hi
        have := h (1 + k.toNat + i) (by omega)
        rw [show a + (1 + k.toNat + i) = a + 1 + k.toNat + i by omega] at this
        rw [this, show 1 + k.toNat + i = (k.toNat + i) + 1 by omega, List.cons_append, List.getElem?_cons_succ]
        by_cases hlt : k.toNat + i < r.length
        · rw [List.getElem?_append_left hlt, List.getElem?_append_left (by simp; omega), List.getElem?_drop]
        · rw [List.getElem?_append_right (by omega), List.getElem?_append_right (by simp; omega)]
          congr 1; simp; omega)
      have he : a + 1 + k.toNat + (r.drop k.toNat).length + 1 = a + (k :: r).length + 1 := by simp; omega
      rw [he] at hk
      refine .label (by simpa using h 0 (by omega)) h1 h2 h3 (fun i hi => ?_) hk
      have := h (i + 1) (by omega)
      rw [show a + 1 + i = a + (i + 1) by omega, this, List.cons_append, List.getElem?_cons_succ, List.getElem?_append_left (by omega)]
theorem be2 (v : Nat) : be 2 v = [UInt8.ofNat (v / 256), UInt8.ofNat v] := by simp [be, List.range_succ]
/-- a name that is put stands -/
theorem nameF_ok : ∀ (f : Nat) (p : Pk) (n : By) (lo : Nat), n.length ≤ f → okN n = true → (p.nameF f n).2 = 0 → (∀ a ∈ p.begun, a + 2 ≤ p.w.s.length) → lo ≤ p.w.s.length →
    (∀ m a, p.rests m = some a → m.length ≤ n.length → a < lo ∧ a < 16384 ∧ ∀ s, p.Ext s → ∃ e, Nm s true a a m e) →
    p.w.s.length < (p.nameF f n).1.w.s.length ∧ (p.nameF f n).1.w.e = 0 ∧ ((p.nameF f n).1.w.most = p.w.most ∧ (p.nameF f n).1.w.s.length ≤ p.w.most) ∧ (p.nameF f n).1.w.s.length ≤ p.w.s.length + n.length + 1 ∧
    (p.nameF f n).1.begun = p.begun ∧
    (∀ s, (p.nameF f n).1.Ext s → p.Ext s ∧ Nm s true lo p.w.s.length n (p.nameF f n).1.w.s.length) ∧
    (∀ m a, (p.nameF f n).1.rests m = some a → p.rests m = some a ∨ (a < 16384 ∧ a < (p.nameF f n).1.w.s.length ∧ ∀ s, (p.nameF f n).1.Ext s → ∃ e, Nm s true a a m e)) := by
  intro f
  have root : ∀ (p : Pk) (lo : Nat), (p.put [0]).2 = 0 → (∀ a ∈ p.begun, a + 2 ≤ p.w.s.length) →
      p.w.s.length < (p.put [0]).1.w.s.length ∧ (p.put [0]).1.w.e = 0 ∧ ((p.put [0]).1.w.most = p.w.most ∧ (p.put [0]).1.w.s.length ≤ p.w.most) ∧ (p.put [0]).1.w.s.length ≤ p.w.s.length + 0 + 1 ∧ (p.put [0]).1.begun = p.begun ∧
      (∀ s, (p.put [0]).1.Ext s → p.Ext s ∧ Nm s true lo p.w.s.length [] (p.put [0]).1.w.s.length) ∧
      (∀ m a, (p.put [0]).1.rests m = some a → p.rests m = some a ∨ (a < 16384 ∧ a < (p.put [0]).1.w.s.length ∧ ∀ s, (p.put [0]).1.Ext s → ∃ e, Nm s true a a m e)) := by
    intro p lo h hp
    obtain ⟨h0, h1, h2⟩ := Wr.put_ok h
    refine ⟨by simp [h2], by simp [h2], ⟨by simp [h2], by simp [h2]; simpa using h1⟩, by simp [h2], rfl, fun s hs => ?_, fun m a hm => .inl hm⟩
    obtain ⟨e1, e2⟩ := put_ext hp h hs
    refine ⟨e1, ?_⟩
    simp only [h2, List.length_append, List.length_cons, List.length_nil]
    exact .root (by simpa using e2 0 (by simp))
  induction f with
  | zero =>
    intro p n lo hf ho h hp hlo hv
    have : n = [] := List.length_eq_zero_iff.1 (by omega)
    subst this
    exact root p lo h hp
  | succ f ih =>
    intro p n lo hf ho h hp hlo hv
    cases n with
    | nil => exact root p lo h hp
    | cons k r =>
      obtain ⟨k1, k2, k3, k4⟩ := okN_label ho
      simp only [List.length_cons] at hf
      cases hr : p.rests (k :: r) with
      | some a =>
        rw [Pk.nameF_some hr] at h ⊢
        simp only at h ⊢
        obtain ⟨v1, v2, v3⟩ := hv _ _ hr (Nat.le_refl _)
        obtain ⟨h0, hfit, h1, h2⟩ := Wr.num_ok h
        have e1 : (49152 + (a : Int)).toNat = 49152 + a := by omega
        simp only [show (2 : Int).toNat = 2 from rfl, e1] at h2 h1
        have hput : p.num (49152 + (a : Int)) 2 = p.put (be 2 (49152 + a)) := by
          unfold Pk.num Pk.put Wr.num
          rw [if_neg (by omega), if_pos hfit]
          simp only [show (2 : Int).toNat = 2 from rfl, e1]
        have hh : (p.put (be 2 (49152 + a))).2 = 0 := by rw [← hput]; exact h
        refine ⟨by simp [h2, be_length], by simp [h2], ⟨by simp [h2], by simp [h2, be_length]; omega⟩, by simp [h2, be_length], trivial, fun s hs => ?_, fun m b hm => .inl hm⟩
        have hs' : (p.put (be 2 (49152 + a))).1.Ext s := by rw [← hput]; exact hs
        obtain ⟨x1, x2⟩ := put_ext hp hh hs'
        obtain ⟨e, hnm⟩ := v3 s x1
        have b0 := x2 0 (by simp [be_length])
        have b1 := x2 1 (by simp [be_length])
        rw [be2] at b0 b1
        simp only [Nat.add_zero, List.getElem?_cons_zero, List.getElem?_cons_succ] at b0 b1
        refine ⟨x1, ?_⟩
        simp only [h2, List.length_append, be_length]
        refine .ptr rfl b0 b1 ?_ ?_ v1 hnm
        · simp; omega
        · simp; omega
      | none =>
        rw [Pk.nameF_none hr] at h ⊢
        by_cases hx : (p.w.put (k :: r.take k.toNat)).2 ≠ 0
        · rw [if_pos hx] at h; exact absurd h hx
        · rw [if_neg hx] at h ⊢
          have hx0 : (p.put (k :: r.take k.toNat)).2 = 0 := by simpa using hx
          obtain ⟨h0, h1, h2⟩ := Wr.put_ok (W := p.w) hx0
          have hlen : (p.w.s ++ (k :: r.take k.toNat)).length = p.w.s.length + 1 + k.toNat := by simp; omega
          generalize hp1 : ({ p with w := (p.w.put (k :: r.take k.toNat)).1, rests := if p.w.s.length < 16384 then updN p.rests (k :: r) p.w.s.length else p.rests } : Pk) = p1 at h ⊢
          have w1 : p1.w.s = p.w.s ++ (k :: r.take k.toNat) := by rw [← hp1]; simp [h2]
          have b1 : p1.begun = p.begun := by rw [← hp1]
          have m1 : p1.w.most = p.w.most := by rw [← hp1]; simp [h2]
          have hext : ∀ s, p1.Ext s → p.Ext s ∧ ∀ i, i < (k :: r.take k.toNat).length → s[p.w.s.length + i]? = (k :: r.take k.toNat)[i]? := fun s hs =>
            put_ext hp hx0 (by
              unfold Pk.Ext at hs ⊢
              rw [w1, b1] at hs
              simp only [h2]
              exact hs)
          have hrest : ∀ m a, p1.rests m = some a → p.rests m = some a ∨ (m = k :: r ∧ a = p.w.s.length ∧ p.w.s.length < 16384) := by
            intro m a hm
            rw [← hp1] at hm
            simp only at hm
            split at hm
            · unfold updN at hm
              split at hm
              · cases hm; exact .inr ⟨by assumption, rfl, by assumption⟩
              · exact .inl hm
            · exact .inl hm
          obtain ⟨g1, g2, g2', g3, g4, g5, g6⟩ := ih p1 (r.drop k.toNat) lo (by simp; omega) k4 h (by rw [b1, w1, hlen]; intro a ha; have := hp a ha; omega) (by rw [w1, hlen]; omega) (fun m a hm hml => by
            simp only [List.length_drop] at hml
            rcases hrest m a hm with hm | ⟨rfl, _⟩
            · obtain ⟨v1, v2, v3⟩ := hv m a hm (by simp; omega)
              exact ⟨v1, v2, fun s hs => v3 s (hext s hs).1⟩
            · simp at hml; omega)
          rw [w1, hlen] at g1 g3 g5
          simp only [List.length_drop] at g3
          have key : ∀ s lo', lo ≤ lo' → lo' ≤ p.w.s.length → (p1.nameF f (r.drop k.toNat)).1.Ext s → p.Ext s ∧ Nm s true lo' p.w.s.length (k :: r) (p1.nameF f (r.drop k.toNat)).1.w.s.length := by
            intro s lo' hl1 hl2 hs
            obtain ⟨x1, x2⟩ := g5 s hs
            obtain ⟨y1, y2⟩ := hext s x1
            have hl : (k :: r.take k.toNat).length = k.toNat + 1 := by simp; omega
            rw [hl] at y2
            refine ⟨y1, .label (by simpa using y2 0 (by omega)) k1 k2 k3 (fun i hi => ?_) ?_⟩
            · have := y2 (i + 1) (by omega)
              rw [show p.w.s.length + 1 + i = p.w.s.length + (i + 1) by omega, this, List.getElem?_cons_succ, List.getElem?_take, if_pos hi]
            · exact (x2.mono hl1)
          refine ⟨by omega, g2, ⟨by rw [g2'.1, m1], by have := g2'.2; rw [m1] at this; exact this⟩, by simp only [List.length_cons]; omega, by rw [g4, b1], fun s hs => key s lo (Nat.le_refl _) hlo hs, fun m a hm => ?_⟩
          rcases g6 m a hm with hm | hm
          · rcases hrest m a hm with hm | ⟨rfl, rfl, hfar⟩
            · exact .inl hm
            · exact .inr ⟨hfar, by omega, fun s hs => ⟨_, (key s p.w.s.length hlo (Nat.le_refl _) hs).2⟩⟩
          · exact .inr hm
end Np
namespace Np
set_option linter.all false
/-! ## fields that are put, one behind the other -/
inductive Fd where
  | oct (x : By)
  | nam (fo : Bool) (n : By)
def Fd.ok : Fd → Prop
  | .oct _ => True
  | .nam _ n => chkN n = 0
def Fd.len : Fd → Nat
  | .oct x => x.length
  | .nam _ n => n.length + 1
def Pk.putFd (p : Pk) : Fd → Pk
  | .oct x => (p.put x).1
  | .nam fo n => if fo = true then (p.name n).1 else (p.plain n).1
def Pk.putFds (p : Pk) (l : List Fd) : Pk := l.foldl Pk.putFd p
def lens (l : List Fd) : Nat := (l.map Fd.len).sum
inductive Stand (s : By) : Nat → List Fd → Nat → Prop
  | nil {a : Nat} : Stand s a [] a
  | oct {a e : Nat} {x : By} {l : List Fd} : (∀ i, i < x.length → s[a + i]? = x[i]?) → Stand s (a + x.length) l e → Stand s a (.oct x :: l) e
  | nam {a b e : Nat} {fo : Bool} {n : By} {l : List Fd} : Nm s fo a a n b → n.length ≤ 254 → Stand s b l e → Stand s a (.nam fo n :: l) e
theorem Stand.append {s : By} {l k : List Fd} {e : Nat} : ∀ {a : Nat}, Stand s a (l ++ k) e ↔ ∃ m, Stand s a l m ∧ Stand s m k e := by
  induction l with
  | nil => intro a; exact ⟨fun h => ⟨a, .nil, h⟩, fun ⟨m, h1, h2⟩ => by cases h1; exact h2⟩
  | cons f l ih =>
    intro a
    constructor
    · intro h
      cases h with
      | oct h1 h2 => obtain ⟨m, h3, h4⟩ := ih.1 h2; exact ⟨m, .oct h1 h3, h4⟩
      | nam h1 h2 h3 => obtain ⟨m, h4, h5⟩ := ih.1 h3; exact ⟨m, .nam h1 h2 h4, h5⟩
    · rintro ⟨m, h1, h2⟩
      cases h1 with
      | oct h3 h4 => exact .oct h3 (ih.2 ⟨m, h4, h2⟩)
      | nam h3 h4 h5 => exact .nam h3 h4 (ih.2 ⟨m, h5, h2⟩)
theorem Stand.nil_inv {s : By} {a e : Nat} (h : Stand s a [] e) : e = a := by cases h; rfl
theorem Stand.oct_inv {s x : By} {l : List Fd} {a e : Nat} (h : Stand s a (.oct x :: l) e) : (∀ i, i < x.length → s[a + i]? = x[i]?) ∧ Stand s (a + x.length) l e := by
  cases h with
  | oct h1 h2 => exact ⟨h1, h2⟩
theorem Stand.nam_inv {s n : By} {fo : Bool} {l : List Fd} {a e : Nat} (h : Stand s a (.nam fo n :: l) e) : ∃ b, Nm s fo a a n b ∧ n.length ≤ 254 ∧ Stand s b l e := by
  cases h with
  | nam h1 h2 h3 => exact ⟨_, h1, h2, h3⟩
theorem Stand.le {s : By} {l : List Fd} {a e : Nat} (h : Stand s a l e) : a ≤ e := by
  induction h with
  | nil => exact Nat.le_refl _
  | oct _ _ ih => omega
  | nam h _ _ ih => have := h.le; omega
theorem Wr.put_err (W : Wr) (x : By) : (W.put x).2 = (W.put x).1.e := by
  unfold Wr.put
  split
  · rfl
  · split
    · rfl
    · simp only; have h : ¬ W.e ≠ 0 := by assumption
      exact (Decidable.not_not.1 h).symm
theorem Wr.put_stuck {W : Wr} (h : W.e ≠ 0) (x : By) : W.put x = (W, W.e) := by unfold Wr.put; rw [if_pos h]
theorem Wr.num_fits {W : Wr} {v n : Int} (h : fits v n) : W.num v n = W.put (be n.toNat v.toNat) := by
  unfold Wr.num
  split
  · rw [Wr.put_stuck (by assumption)]
  · first | rfl | rw [if_pos h]
theorem Pk.num_fits {p : Pk} {v n : Int} (h : fits v n) : p.num v n = p.put (be n.toNat v.toNat) := by
  unfold Pk.num Pk.put; rw [Wr.num_fits h]
theorem fits_ptr {a : Nat} (h : a < 16384) : fits (49152 + (a : Int)) 2 := by
  unfold fits
  refine ⟨by decide, by decide, ?_⟩
  show _ < (256 : Int) ^ 2
  omega
theorem nameF_err : ∀ (f : Nat) (p : Pk) (n : By), n.length ≤ f → (∀ m a, p.rests m = some a → a < 16384) → (p.nameF f n).2 = (p.nameF f n).1.w.e := by
  intro f
  induction f with
  | zero =>
    intro p n hf hr
    have : n = [] := List.length_eq_zero_iff.1 (by omega)
    subst this
    exact Wr.put_err _ _
  | succ f ih =>
    intro p n hf hr
    cases n with
    | nil => exact Wr.put_err _ _
    | cons k r =>
      simp only [List.length_cons] at hf
      cases h : p.rests (k :: r) with
      | some a =>
        rw [Pk.nameF_some h]
        simp only
        rw [Wr.num_fits (fits_ptr (hr _ _ h))]
        exact Wr.put_err _ _
      | none =>
        rw [Pk.nameF_none h]
        split
        · exact Wr.put_err _ _
        · refine ih _ _ (by simp; omega) fun m a hm => ?_
          simp only at hm
          split at hm
          · unfold updN at hm
            split at hm
            · cases hm; assumption
            · exact hr _ _ hm
          · exact hr _ _ hm
theorem nameF_room : ∀ (f : Nat) (p : Pk) (n : By), n.length ≤ f → okN n = true → p.w.e = 0 → p.w.s.length + n.length + 1 ≤ p.w.most → (∀ m a, p.rests m = some a → a < 16384) → (p.nameF f n).2 = 0 := by
  intro f
  have put0 : ∀ (p : Pk) (x : By), p.w.e = 0 → p.w.s.length + x.length ≤ p.w.most → p.w.put x = ({ p.w with s := p.w.s ++ x }, 0) := by
    intro p x h1 h2
    unfold Wr.put
    rw [if_neg (by omega), if_neg (by omega)]
  induction f with
  | zero =>
    intro p n hf ho he hl hr
    have : n = [] := List.length_eq_zero_iff.1 (by omega)
    subst this
    show (p.put [0]).2 = 0
    rw [Pk.put, put0 p [0] he (by simpa using hl)]
  | succ f ih =>
    intro p n hf ho he hl hr
    cases n with
    | nil =>
      show (p.put [0]).2 = 0
      rw [Pk.put, put0 p [0] he (by simpa using hl)]
    | cons k r =>
      obtain ⟨k1, k2, k3, k4⟩ := okN_label ho
      simp only [List.length_cons] at hf hl
      cases h : p.rests (k :: r) with
      | some a =>
        rw [Pk.nameF_some h]
        simp only
        rw [Wr.num_fits (fits_ptr (hr _ _ h)), put0 p _ he (by rw [be_length]; show _ + 2 ≤ _; omega)]
      | none =>
        rw [Pk.nameF_none h]
        have hp := put0 p (k :: r.take k.toNat) he (by simp; omega)
        rw [if_neg (by rw [hp]; simp)]
        refine ih _ _ (by simp; omega) k4 (by rw [hp]; exact he) (by rw [hp]; simp; omega) fun m a hm => ?_
        simp only at hm
        split at hm
        · unfold updN at hm
          split at hm
          · cases hm; assumption
          · exact hr _ _ hm
        · exact hr _ _ hm
theorem chkN_ok {n : By} (h : chkN n = 0) : n.length ≤ 254 ∧ okN n = true := by
  unfold chkN at h
  split at h
  · cases h
  · split at h
    · exact ⟨by omega, by assumption⟩
    · cases h
theorem Pk.Inv.far {p : Pk} (h : p.Inv) : ∀ m a, p.rests m = some a → a < 16384 := fun m a hm => (h.ns m a hm).1

theorem putFd_stuck {p : Pk} (h : p.w.e ≠ 0) (f : Fd) : p.putFd f = p := by
  cases f with
  | oct x => simp only [Pk.putFd, Pk.put, Wr.put_stuck h]
  | nam fo n =>
    simp only [Pk.putFd]
    have hr : p.ready n ≠ 0 := by unfold Pk.ready; rw [if_pos h]; exact h
    split
    · unfold Pk.name; rw [if_pos hr]
    · unfold Pk.plain; rw [if_pos hr]
theorem putFds_stuck {p : Pk} (h : p.w.e ≠ 0) (l : List Fd) : p.putFds l = p := by
  induction l with
  | nil => rfl
  | cons f l ih => show (p.putFd f).putFds l = p; rw [putFd_stuck h, ih]
theorem putFds_append (p : Pk) (l k : List Fd) : p.putFds (l ++ k) = (p.putFds l).putFds k := by simp [Pk.putFds]

/-- what one op does when it does not fail -/
structure Did (p p' : Pk) (l : List Fd) : Prop where
  e : p.w.e = 0
  inv : p'.Inv
  begun : p'.begun = p.begun
  most : p'.w.most = p.w.most
  lo : p.w.s.length ≤ p'.w.s.length
  hi : p'.w.s.length ≤ p.w.s.length + lens l
  st : ∀ s, p'.Ext s → p.Ext s ∧ Stand s p.w.s.length l p'.w.s.length
theorem Did.put {p : Pk} {x : By} (hi : p.Inv) (h : (p.put x).2 = 0) : Did p (p.put x).1 [.oct x] := by
  obtain ⟨h0, h1, h2⟩ := Wr.put_ok h
  have hx := fun s => put_ext (s := s) hi.pend h
  refine ⟨h0, ⟨fun n a hn => ?_, fun a ha => ?_, ?_⟩, rfl, by simp [h2], by simp [h2], by simp [h2, lens, Fd.len], fun s hs => ⟨(hx s hs).1, ?_⟩⟩
  · obtain ⟨a1, a2, a3⟩ := hi.ns n a hn
    exact ⟨a1, by simp only [h2, List.length_append]; omega, fun s hs => a3 s (hx s hs).1⟩
  · have := hi.pend a ha
    simp only [h2, List.length_append]; omega
  · simpa [h2] using h1
  · simp only [h2, List.length_append]
    exact .oct (hx s hs).2 .nil
theorem Did.name {p : Pk} {n : By} (hi : p.Inv) (hn : chkN n = 0) (h : (p.name n).1.w.e = 0) : (p.name n).2 = 0 ∧ Did p (p.name n).1 [.nam true n] := by
  have he : p.w.e = 0 := by
    refine Decidable.by_contra fun he => ?_
    unfold Pk.name at h
    rw [if_pos (by unfold Pk.ready; rw [if_pos he]; exact he)] at h
    exact he h
  obtain ⟨hl, ho⟩ := chkN_ok hn
  have hr : ¬ p.ready n ≠ 0 := by unfold Pk.ready; rw [if_neg (by omega)]; omega
  unfold Pk.name at h ⊢
  rw [if_neg hr] at h ⊢
  have h2 : (p.nameF n.length n).2 = 0 := by rw [nameF_err _ _ _ (Nat.le_refl _) hi.far]; exact h
  obtain ⟨g1, g2, g2', g3, g4, g5, g6⟩ := nameF_ok n.length p n p.w.s.length (Nat.le_refl _) ho h2 hi.pend (Nat.le_refl _) (fun m a hm _ => by
    obtain ⟨a1, a2, a3⟩ := hi.ns m a hm; exact ⟨a2, a1, a3⟩)
  refine ⟨h2, he, ⟨fun m a hm => ?_, fun a ha => ?_, by rw [g2'.1]; exact g2'.2⟩, g4, g2'.1, by omega, by simp [lens, Fd.len]; omega, fun s hs => ⟨(g5 s hs).1, .nam (g5 s hs).2 hl .nil⟩⟩
  · rcases g6 m a hm with hm | hm
    · obtain ⟨a1, a2, a3⟩ := hi.ns m a hm
      exact ⟨a1, by omega, fun s hs => a3 s (g5 s hs).1⟩
    · exact hm
  · rw [g4] at ha; have := hi.pend a ha; omega
theorem Did.plain {p : Pk} {n : By} (hi : p.Inv) (hn : chkN n = 0) (h : (p.plain n).1.w.e = 0) : (p.plain n).2 = 0 ∧ Did p (p.plain n).1 [.nam false n] := by
  have he : p.w.e = 0 := by
    refine Decidable.by_contra fun he => ?_
    unfold Pk.plain at h
    rw [if_pos (by unfold Pk.ready; rw [if_pos he]; exact he)] at h
    exact he h
  obtain ⟨hl, ho⟩ := chkN_ok hn
  have hr : ¬ p.ready n ≠ 0 := by unfold Pk.ready; rw [if_neg (by omega)]; omega
  unfold Pk.plain at h ⊢
  rw [if_neg hr] at h ⊢
  have h2 : (p.put (n ++ [0])).2 = 0 := by rw [← h]; exact Wr.put_err _ _
  have hd := Did.put hi h2
  refine ⟨h2, hd.e, hd.inv, hd.begun, hd.most, hd.lo, by have := hd.hi; simp [lens, Fd.len] at this ⊢; omega, fun s hs => ?_⟩
  obtain ⟨h3, h4⟩ := hd.st s hs
  refine ⟨h3, ?_⟩
  cases h4 with
  | oct h5 h6 =>
    simp only [List.length_append, List.length_cons, List.length_nil, Nat.zero_add] at h5 h6
    exact .nam (plain_Nm n.length n _ (Nat.le_refl _) ho h5) hl h6
theorem Did.fd {p : Pk} {f : Fd} (hi : p.Inv) (hf : f.ok) (h : (p.putFd f).w.e = 0) : Did p (p.putFd f) [f] := by
  cases f with
  | oct x => exact Did.put hi (by rw [← h]; exact Wr.put_err _ _)
  | nam fo n =>
    simp only [Pk.putFd] at h ⊢
    cases fo with
    | true => simp only [if_true] at h ⊢; exact (Did.name hi hf h).2
    | false => simp only [Bool.false_eq_true, if_false] at h ⊢; exact (Did.plain hi hf h).2
theorem Did.fds : ∀ (l : List Fd) (p : Pk), p.Inv → (∀ f ∈ l, f.ok) → (p.putFds l).w.e = 0 → Did p (p.putFds l) l := by
  intro l
  induction l with
  | nil => intro p hi _ h; exact ⟨h, hi, rfl, rfl, Nat.le_refl _, by simp [lens, Pk.putFds], fun s hs => ⟨hs, .nil⟩⟩
  | cons f l ih =>
    intro p hi hf h
    have e : p.putFds (f :: l) = (p.putFd f).putFds l := rfl
    rw [e] at h ⊢
    have he : (p.putFd f).w.e = 0 := by
      refine Decidable.by_contra fun he => ?_
      rw [putFds_stuck he] at h; exact he h
    have d1 := Did.fd hi (hf f (by simp)) he
    have d2 := ih (p.putFd f) d1.inv (fun g hg => hf g (by simp [hg])) h
    refine ⟨d1.e, d2.inv, d2.begun.trans d1.begun, d2.most.trans d1.most, Nat.le_trans d1.lo d2.lo, ?_, fun s hs => ?_⟩
    · have := d1.hi; have := d2.hi; simp [lens] at *; omega
    · obtain ⟨h1, h2⟩ := d2.st s hs
      obtain ⟨h3, h4⟩ := d1.st s h1
      exact ⟨h3, Stand.append (l := [f]).2 ⟨_, h4, h2⟩⟩
theorem putFd_room {p : Pk} {f : Fd} (hi : p.Inv) (hf : f.ok) (he : p.w.e = 0) (hr : p.w.s.length + f.len ≤ p.w.most) : (p.putFd f).w.e = 0 := by
  cases f with
  | oct x =>
    simp only [Fd.len] at hr
    simp only [Pk.putFd, Pk.put]
    rw [← Wr.put_err]
    unfold Wr.put
    rw [if_neg (by omega), if_neg (by omega)]
  | nam fo n =>
    simp only [Fd.len] at hr
    obtain ⟨hl, ho⟩ := chkN_ok hf
    have hrd : ¬ p.ready n ≠ 0 := by unfold Pk.ready; rw [if_neg (by omega)]; have : chkN n = 0 := hf; omega
    simp only [Pk.putFd]
    split
    · unfold Pk.name
      rw [if_neg hrd, ← nameF_err _ _ _ (Nat.le_refl _) hi.far]
      exact nameF_room _ _ _ (Nat.le_refl _) ho he (by omega) hi.far
    · unfold Pk.plain
      rw [if_neg hrd]
      simp only [Pk.put]
      rw [← Wr.put_err]
      unfold Wr.put
      rw [if_neg (by omega), if_neg (by simp; omega)]
theorem putFds_room : ∀ (l : List Fd) (p : Pk), p.Inv → (∀ f ∈ l, f.ok) → p.w.e = 0 → p.w.s.length + lens l ≤ p.w.most → (p.putFds l).w.e = 0 := by
  intro l
  induction l with
  | nil => intro p _ _ h _; exact h
  | cons f l ih =>
    intro p hi hf he hr
    have hl : lens (f :: l) = f.len + lens l := by simp [lens]
    have h1 := putFd_room hi (hf f (by simp)) he (by omega)
    have d1 := Did.fd hi (hf f (by simp)) h1
    exact ih _ d1.inv (fun g hg => hf g (by simp [hg])) h1 (by have := d1.hi; have := d1.most; simp [lens] at *; omega)

/-! ## data as fields -/
def numsL (W : What) (d : Dat) (k : Nat) : List Fd := (List.range k).map fun i => .oct (be W.wide.toNat (d.num i))
def textsL (l : List By) : List Fd := l.flatMap fun x => [.oct (be 1 x.length), .oct x]
def namesL (W : What) (l : List By) : List Fd := l.map (.nam (!W.plain))
def flds (W : What) (d : Dat) : List Fd :=
  (if 0 < W.addr then [.oct (adOct d.addr).1] else []) ++ (if W.numsFirst = true then numsL W d W.nums.toNat else []) ++ namesL W (namesOf W d) ++
    (if W.numsFirst = true then [] else numsL W d W.nums.toNat) ++ textsL d.texts ++ [.oct d.raw]
/-- what a type has, more closely -/
structure OkW2 (W : What) : Prop where
  addr : W.addr = 0 ∨ W.addr = 4 ∨ W.addr = 16
  wide : 0 < W.nums → W.wide = 2 ∨ W.wide = 4
  raw : W.raw = true → W.addr = 0 ∧ W.names = 0 ∧ W.nums = 0 ∧ W.texts = false
  texts : W.texts = true → W.addr = 0 ∧ W.names = 0 ∧ W.nums = 0 ∧ W.raw = false
  has : W.raw = false → W.texts = false → 0 < W.addr ∨ 0 < W.names
theorem findW_ok2 {t : Int} {w : What} (h : findW wlist t = some w) : OkW2 w := by
  simp only [wlist, findW] at h
  repeat' split at h
  all_goals first | cases h | skip
  all_goals exact ⟨by decide, by decide, by decide, by decide, by decide⟩
theorem whatOf_ok2 (t : Int) : OkW2 (whatOf t) := by
  unfold whatOf
  cases h : findW wlist t with
  | none => exact ⟨by decide, by decide, by decide, by decide, by decide⟩
  | some w => exact findW_ok2 h
structure GoodD (W : What) (d : Dat) : Prop where
  ok : OkD d
  bare : Bare W d
  name : chkN d.name = 0
  mail : chkN d.mail = 0
  texts : ∀ x ∈ d.texts, x.length ≤ 255
theorem ckD_good {t : Int} {d : Dat} (hd : OkD d) (h : ckD t d = 0) : mayT t ∧ GoodD (whatOf t) d := by
  unfold ckD at h
  split at h
  · cases h
  · rename_i h1
    split at h
    · exact absurd h (by assumption)
    · rename_i h2
      split at h
      · exact absurd h (by assumption)
      · rename_i h3
        split at h
        · cases h
        · rename_i h4
          have h1' : mayT t ∧ Bare (whatOf t) d := ⟨Decidable.by_contra fun h => h1 (.inl h), Classical.byContradiction fun h => h1 (.inr h)⟩
          exact ⟨h1'.1, hd, h1'.2, by omega, by omega, fun x hx => Nat.le_of_not_lt fun hlt => h4 ⟨x, hx, hlt⟩⟩
theorem good_ckD {t : Int} {d : Dat} (ht : mayT t) (h : GoodD (whatOf t) d) : ckD t d = 0 := by
  unfold ckD
  rw [if_neg (by rintro (h1 | h1); exact h1 ht; exact h1 h.bare), if_neg (by have := h.name; omega), if_neg (by have := h.mail; omega), if_neg]
  rintro ⟨x, hx, hlt⟩
  have := h.texts x hx; omega
theorem num_fits' {W : What} {d : Dat} (hw : OkW2 W) (hg : GoodD W d) {i : Nat} (hi : i < 5) (hn : 0 < W.nums) : fits (d.num i : Nat) W.wide := by
  have h1 := hg.ok.nums i
  have h2 := (hg.bare.nums i hi).2
  unfold fits
  rcases hw.wide hn with h | h
  · have := h2 h
    rw [h]
    exact ⟨by decide, by decide, by show _ < (256 : Int) ^ 2; omega⟩
  · rw [h]
    exact ⟨by decide, by decide, by show _ < (256 : Int) ^ 4; omega⟩
theorem numsP_eq {W : What} {d : Dat} (hw : OkW2 W) (hg : GoodD W d) (p : Pk) : ∀ k : Nat, k ≤ W.nums.toNat → k ≤ 5 → numsP W d p k = p.putFds (numsL W d k) := by
  intro k
  induction k with
  | zero => intro _ _; rfl
  | succ k ih =>
    intro h1 h2
    rw [numsP_succ, ih (by omega) (by omega)]
    rw [show numsL W d (k + 1) = numsL W d k ++ [.oct (be W.wide.toNat (d.num k))] by simp [numsL, List.range_succ]]
    rw [putFds_append, Pk.num_fits (num_fits' hw hg (by omega) (by omega))]
    rfl
theorem namesP_eq (W : What) : ∀ (l : List By) (p : Pk), namesP W p l = p.putFds (namesL W l) := by
  intro l
  induction l with
  | nil => intro p; rfl
  | cons n l ih =>
    intro p
    show namesP W (if W.plain = true then (p.plain n).1 else (p.name n).1) l = (p.putFd (.nam (!W.plain) n)).putFds (namesL W l)
    rw [ih]
    congr 1
    simp only [Pk.putFd]
    cases W.plain <;> rfl
theorem textsP_eq : ∀ (l : List By) (p : Pk), (∀ x ∈ l, x.length ≤ 255) → textsP p l = p.putFds (textsL l) := by
  intro l
  induction l with
  | nil => intro p _; rfl
  | cons x l ih =>
    intro p h
    have h1 := h x (by simp)
    have hf : fits (x.length : Int) 1 := by unfold fits; exact ⟨by decide, by decide, by show _ < (256 : Int) ^ 1; omega⟩
    show textsP (((p.num x.length 1).1.put x).1) l = _
    rw [ih _ (fun y hy => h y (by simp [hy])), Pk.num_fits hf]
    rfl
theorem putD_eq {p : Pk} {t : Int} {d : Dat} (hd : OkD d) (h : chkD t d = 0) : putD p t d = (p.putFds (flds (whatOf t) d), (p.putFds (flds (whatOf t) d)).w.e) := by
  have hc : ckD t d = 0 := by
    unfold chkD at h
    split at h
    · exact h
    · omega
  obtain ⟨ht, hg⟩ := ckD_good hd hc
  have hw := whatOf_ok t
  have hw2 := whatOf_ok2 t
  unfold putD
  rw [if_neg (by omega)]
  have hn := numsP_eq (W := whatOf t) (d := d) hw2 hg
  have key : (textsP (if (whatOf t).numsFirst = true then namesP (whatOf t) (if (whatOf t).numsFirst = true then numsP (whatOf t) d (if 0 < (whatOf t).addr then (p.put (adOct d.addr).1).1 else p) (whatOf t).nums.toNat else (if 0 < (whatOf t).addr then (p.put (adOct d.addr).1).1 else p)) (namesOf (whatOf t) d)
      else numsP (whatOf t) d (namesP (whatOf t) (if (whatOf t).numsFirst = true then numsP (whatOf t) d (if 0 < (whatOf t).addr then (p.put (adOct d.addr).1).1 else p) (whatOf t).nums.toNat else (if 0 < (whatOf t).addr then (p.put (adOct d.addr).1).1 else p)) (namesOf (whatOf t) d)) (whatOf t).nums.toNat) d.texts).put d.raw
      = (((p.putFds (flds (whatOf t) d))), (p.putFds (flds (whatOf t) d)).w.e) := by
    have hp1 : (if 0 < (whatOf t).addr then (p.put (adOct d.addr).1).1 else p) = p.putFds (if 0 < (whatOf t).addr then [.oct (adOct d.addr).1] else []) := by
      split <;> rfl
    rw [textsP_eq _ _ hg.texts]
    unfold flds
    rw [putFds_append, putFds_append, putFds_append, putFds_append, putFds_append, ← hp1]
    have hlast : ∀ q : Pk, q.put d.raw = (q.putFds [.oct d.raw], (q.putFds [.oct d.raw]).w.e) := fun q => by
      have := Wr.put_err q.w d.raw
      show ((q.put d.raw).1, (q.w.put d.raw).2) = _
      rw [this]; rfl
    cases hnf : (whatOf t).numsFirst with
    | true =>
      simp only [if_true]
      rw [namesP_eq, hn _ _ (Nat.le_refl _) (by have := hw.nums; omega), hlast]
      rfl
    | false =>
      simp only [Bool.false_eq_true, if_false]
      rw [namesP_eq, hn _ _ (Nat.le_refl _) (by have := hw.nums; omega), hlast]
      rfl
  have k1 := congrArg Prod.fst key
  exact Prod.ext k1 (congrArg (fun q : Pk => q.w.e) k1)
theorem flds_ok {W : What} {d : Dat} (hg : GoodD W d) : ∀ f ∈ flds W d, f.ok := by
  intro f hf
  have oct : ∀ x, (Fd.oct x).ok := fun x => trivial
  simp only [flds, List.mem_append] at hf
  rcases hf with ((((hf | hf) | hf) | hf) | hf) | hf
  · split at hf
    · simp at hf; subst hf; exact oct _
    · cases hf
  · split at hf
    · simp only [numsL, List.mem_map] at hf; obtain ⟨_, _, rfl⟩ := hf; exact oct _
    · cases hf
  · simp only [namesL, List.mem_map] at hf
    obtain ⟨n, hn, rfl⟩ := hf
    have := List.mem_of_mem_take hn
    simp at this
    rcases this with rfl | rfl
    · exact hg.name
    · exact hg.mail
  · split at hf
    · cases hf
    · simp only [numsL, List.mem_map] at hf; obtain ⟨_, _, rfl⟩ := hf; exact oct _
  · simp only [textsL, List.mem_flatMap] at hf
    obtain ⟨x, _, hf⟩ := hf
    simp at hf
    rcases hf with rfl | rfl <;> exact oct _
  · simp at hf; subst hf; exact oct _
theorem lens_append (l k : List Fd) : lens (l ++ k) = lens l + lens k := by simp [lens]
theorem lens_nums (W : What) (d : Dat) (k : Nat) : lens (numsL W d k) = k * W.wide.toNat := by
  unfold lens numsL
  rw [List.map_map]
  have : (Fd.len ∘ fun i => Fd.oct (be W.wide.toNat (d.num i))) = fun _ => W.wide.toNat := by
    funext i; simp [Fd.len, be_length]
  rw [this]
  clear this
  induction k with
  | zero => simp
  | succ k ih => rw [List.range_succ, List.map_append, List.sum_append, ih]; simp [Nat.add_mul]
theorem lens_texts (l : List By) : (lens (textsL l) : Int) = (l.map fun x => (1 + x.length : Int)).sum := by
  induction l with
  | nil => rfl
  | cons x l ih =>
    rw [show textsL (x :: l) = [.oct (be 1 x.length), .oct x] ++ textsL l from rfl, lens_append]
    simp only [List.map_cons, List.sum_cons, ← ih]
    simp [lens, Fd.len, be_length]
theorem adOct_size {a : Ad} (h : adChk a = 0) : (adOct a).1.length = if a.six = true then 16 else 4 := by
  unfold adOct
  rw [if_neg (by omega)]
  cases a.six <;> simp [be_length]
theorem lens_flds {W : What} {d : Dat} (hw : OkW W) (hw2 : OkW2 W) (hg : GoodD W d) : (lens (flds W d) : Int) = szW W d := by
  have hb := hg.bare
  have ha : (lens (if 0 < W.addr then [Fd.oct (adOct d.addr).1] else []) : Int) = W.addr := by
    split
    · rename_i h0
      obtain ⟨h1, h2⟩ := hb.addr h0
      have := adOct_size h1
      simp only [lens, List.map_cons, List.map_nil, List.sum_cons, List.sum_nil, Fd.len, this]
      rcases hw2.addr with h | h | h
      · omega
      · rw [if_neg (fun hs => by have := h2.1 hs; omega)]; omega
      · rw [if_pos (h2.2 h)]; omega
    · have := hw.addr; simp [lens]; omega
  have hn : (lens (if W.numsFirst = true then numsL W d W.nums.toNat else []) : Int) + (lens (if W.numsFirst = true then [] else numsL W d W.nums.toNat) : Int) = W.nums * W.wide := by
    have h1 := hw.nums
    have h2 := hw.wide
    have : ((W.nums.toNat * W.wide.toNat : Nat) : Int) = W.nums * W.wide := by
      rw [Int.natCast_mul, Int.toNat_of_nonneg h1.1, Int.toNat_of_nonneg h2.1]
    split
    · rw [lens_nums, this]; simp [lens]
    · rw [lens_nums, this]; simp [lens]
  have hm : (lens (namesL W (namesOf W d)) : Int) = ((namesOf W d).map sizeN).sum := by
    have : ∀ l : List By, (∀ n ∈ l, chkN n = 0) → (lens (namesL W l) : Int) = (l.map sizeN).sum := by
      intro l
      induction l with
      | nil => intro _; rfl
      | cons n l ih =>
        intro h
        rw [show namesL W (n :: l) = [.nam (!W.plain) n] ++ namesL W l from rfl, lens_append]
        have h1 : sizeN n = n.length + 1 := by unfold sizeN; rw [if_neg (by have := h n (by simp); omega)]
        simp only [List.map_cons, List.sum_cons, ← ih (fun m hm => h m (by simp [hm])), h1]
        simp [lens, Fd.len]
    refine this _ fun n hn => ?_
    have := List.mem_of_mem_take hn
    simp at this
    rcases this with rfl | rfl
    · exact hg.name
    · exact hg.mail
  have ht := lens_texts d.texts
  have hr : lens [Fd.oct d.raw] = d.raw.length := by simp [lens, Fd.len]
  unfold flds szW
  simp only [lens_append, hr]
  push_cast
  omega
end Np
namespace Np
set_option linter.all false
/-! ## what is read stood there -/
theorem Nm.ok {s : By} {fo : Bool} {lo a e : Nat} {n : By} (h : Nm s fo lo a n e) : okN n = true := by
  induction h with
  | root h => rfl
  | @label lo a e k r h1 h2 h3 h4 h5 h6 ih => rw [okN_cons, if_neg (by omega)]; exact ih
  | ptr h1 h2 h3 h4 h5 h6 h7 ih => exact ih
theorem Nm.ext {s y : By} {fo : Bool} {lo a e : Nat} {n : By} (h : Nm s fo lo a n e) : Nm (s ++ y) fo lo a n e := by
  have key : ∀ {i : Nat} {c : UInt8}, s[i]? = some c → (s ++ y)[i]? = some c := fun {i c} h => by rw [List.getElem?_append_left (some_lt h)]; exact h
  induction h with
  | root h => exact .root (key h)
  | label h1 h2 h3 h4 h5 h6 ih => 
    refine .label (key h1) h2 h3 h4 (fun i hi => ?_) ih
    have hl := h6.le
    rw [List.getElem?_append_left (by omega)]
    exact h5 i hi
  | ptr h1 h2 h3 h4 h5 h6 h7 ih => exact .ptr h1 (key h2) (key h3) h4 h5 h6 ih
theorem run_sound {s : By} {fo : Bool} : ∀ (f : Nat) (t : RdS), t.e = 0 → ROk s t → t.out.length ≤ 254 → t.mu s < f → (RdS.run s fo f t).e = 0 →
    ∃ n e, Nm s fo t.begun t.at' n e ∧ (RdS.run s fo f t).out = t.out ++ n ∧ (RdS.run s fo f t).fin = (if t.fin < 0 then (e : Int) else t.fin) ∧ (RdS.run s fo f t).out.length ≤ 254 := by
  intro f
  induction f with
  | zero => intro t _ _ _ h; omega
  | succ f ih =>
    intro t he hk ho hf hr
    have hst := ROk.step hk ho fo
    rw [RdS.run] at hr ⊢
    generalize hx : t.step s fo = x at hr hst ⊢
    unfold RdS.step at hx
    split at hx
    · subst hx; simp at hr
    · rename_i hlt
      simp only at hx
      have hg : s[t.at']? = some (s.getD t.at' 0) := by simp [List.getD_eq_getElem?_getD, List.getElem?_eq_getElem (by omega : t.at' < s.length)]
      generalize hc : s.getD t.at' 0 = c at hx hg
      split at hx
      · rename_i h0
        subst hx
        have : c = 0 := by apply UInt8.toNat_inj.1; simpa using h0
        subst this
        simp only [Bool.false_eq_true, if_false, RdS.leave] at hr ⊢
        refine ⟨[], t.at' + 1, .root hg, by simp, ?_, ho⟩
        split <;> simp
      · rename_i h0
        split at hx
        · rename_i h64
          unfold RdS.label at hx
          split at hx
          · subst hx; simp at hr
          · rename_i hl
            split at hx
            · subst hx; simp at hr
            · rename_i h254
              subst hx
              simp only [if_true] at hr ⊢
              obtain ⟨hmu, hlo⟩ := hst.2 rfl
              obtain ⟨n, e, h1, h2, h3, h4⟩ := ih { t with out := t.out ++ (s.drop t.at').take (1 + c.toNat), at' := t.at' + (1 + c.toNat) } he hst.1 hlo (Nat.lt_of_lt_of_le hmu (Nat.le_of_lt_succ hf)) hr
              have hd : (s.drop t.at').take (1 + c.toNat) = c :: (s.drop (t.at' + 1)).take c.toNat := by
                rw [Nat.add_comm 1, List.drop_eq_getElem_cons (by omega : t.at' < s.length), List.take_succ_cons]
                congr 1
                rw [List.getElem?_eq_getElem (by omega)] at hg
                exact Option.some.inj hg
              have hlen : ((s.drop (t.at' + 1)).take c.toNat).length = c.toNat := by simp; omega
              refine ⟨c :: ((s.drop (t.at' + 1)).take c.toNat ++ n), e, .label hg (by omega) (by omega) (by simp; omega) (fun i hi => ?_) ?_, ?_, h3, h4⟩
              · rw [List.getElem?_append_left (by omega), List.getElem?_take, if_pos hi, List.getElem?_drop]
              · rw [List.drop_left' hlen]
                rw [show t.at' + 1 + c.toNat = t.at' + (1 + c.toNat) by omega]
                exact h1
              · rw [h2, hd]; simp
        · rename_i h64
          split at hx
          · rename_i h192
            split at hx
            · rename_i hfo
              unfold RdS.jump at hx
              split at hx
              · subst hx; simp at hr
              · rename_i hl
                split at hx
                · subst hx; simp at hr
                · rename_i hb
                  subst hx
                  simp only [if_true] at hr ⊢
                  obtain ⟨hmu, hlo⟩ := hst.2 rfl
                  obtain ⟨n, e, h1, h2, h3, h4⟩ := ih { t.leave 2 with at' := (c.toNat - 192) * 256 + (s.getD (t.at' + 1) 0).toNat, begun := (c.toNat - 192) * 256 + (s.getD (t.at' + 1) 0).toNat, jumps := t.jumps + 1 } he hst.1 hlo (Nat.lt_of_lt_of_le hmu (Nat.le_of_lt_succ hf)) hr
                  have hg2 : s[t.at' + 1]? = some (s.getD (t.at' + 1) 0) := by simp [List.getD_eq_getElem?_getD, List.getElem?_eq_getElem (by omega : t.at' + 1 < s.length)]
                  refine ⟨n, t.at' + 2, .ptr hfo hg hg2 h192 rfl (by omega) h1, h2, ?_, h4⟩
                  rw [h3]
                  simp only [RdS.leave]
                  split
                  · rw [if_neg (by omega)]; simp
                  · rfl
            · subst hx; simp at hr
          · subst hx; simp at hr
theorem rdName_sound {s : By} {fo : Bool} {a : Int} (hs : s.length ≤ 1099511627776) (h : (rdName s a fo).2.2 = 0) : ∃ (k e : Nat), a = k ∧ Nm s fo k k (rdName s a fo).1 e ∧ (rdName s a fo).2.1 = e ∧ (rdName s a fo).1.length ≤ 254 := by
  unfold rdName at h ⊢
  split at h
  · cases h
  · rename_i ha
    rw [if_neg ha]
    unfold RdS.told at h ⊢
    split at h
    · exact absurd h (by assumption)
    · rename_i he
      rw [if_neg he]
      obtain ⟨n, e, h1, h2, h3, h4⟩ := run_sound (s := s) (fo := fo) ((rdInit a.toNat).mu s + 1) (rdInit a.toNat) rfl ⟨by simp [rdInit]; omega, by simp [rdInit]; omega, hs, by simp [rdInit], by simp [rdInit]; omega⟩ (by simp [rdInit]) (by omega) (by omega)
      simp only at h2 h3 h4 ⊢
      have e0 : (rdInit a.toNat).out = [] := rfl
      have e1 : (rdInit a.toNat).fin = -1 := rfl
      rw [e0, List.nil_append] at h2
      rw [e1] at h3
      exact ⟨a.toNat, e, by omega, by rw [h2]; exact h1, by rw [h3]; simp, h4⟩
theorem rdName_ext {s y : By} {fo : Bool} {a : Int} (hs : (s ++ y).length ≤ 1099511627776) (h : (rdName s a fo).2.2 = 0) : rdName (s ++ y) a fo = rdName s a fo := by
  have hs' : s.length ≤ 1099511627776 := by simp at hs; omega
  obtain ⟨k, e, rfl, h1, h2, h3⟩ := rdName_sound hs' h
  rw [rdName_Nm (h1.ext (y := y)) h3 hs]
  exact Prod.ext rfl (Prod.ext h2.symm h.symm)
end Np
namespace Np
set_option linter.all false
/-! ## numbers back -/
theorem be_succ (n v : Nat) : be (n + 1) v = be n (v / 256) ++ [UInt8.ofNat v] := by
  unfold be
  rw [List.range_succ, List.map_append]
  congr 1
  · apply List.map_congr_left
    intro i hi
    have hi := List.mem_range.1 hi
    rw [Nat.div_div_eq_div_mul, show n + 1 - 1 - i = (n - 1 - i) + 1 by omega, Nat.pow_succ, Nat.mul_comm (256 ^ (n - 1 - i))]
  · simp
theorem val_be : ∀ (n v : Nat), v < 256 ^ n → val (be n v) = v := by
  intro n
  induction n with
  | zero => intro v h; have : v = 0 := by simpa using h
            subst this; rfl
  | succ n ih =>
    intro v h
    rw [be_succ, val_snoc, ih (v / 256) (by rw [Nat.pow_succ] at h; omega)]
    simp
    omega
/-! ## a cursor -/
def cu (s : By) (en a : Nat) : Cu := ⟨⟨s.take en, a⟩, s.take en, 0, s⟩
def CuSt (s : By) (en a : Nat) (c : Cu) : Prop := (a ≤ en ∧ c = cu s en a) ∨ (en < a ∧ c.e ≠ 0)
def CuRd {α : Type} (s : By) (en a : Nat) (d : α) (x : Cu × α) : Prop := CuSt s en a x.1 ∧ (a ≤ en → x.2 = d)
theorem slice_of {s x : By} {a : Nat} (h : ∀ i, i < x.length → s[a + i]? = x[i]?) {en : Nat} (he : a + x.length ≤ en) (hs : a + x.length ≤ s.length) : ((s.take en).drop a).take x.length = x := by
  apply List.ext_getElem?
  intro i
  rw [List.getElem?_take]
  split
  · rename_i hi
    rw [List.getElem?_drop, List.getElem?_take, if_pos (by omega), h i hi]
  · rw [List.getElem?_eq_none (by omega)]
section
variable {s : By} {en a : Nat} {c : Cu} (hen : en ≤ s.length)
include hen
theorem take_Rd {x : By} (hc : CuSt s en a c) (h : ∀ i, i < x.length → s[a + i]? = x[i]?) : CuRd s en (a + x.length) x (c.take x.length) := by
  rcases hc with ⟨ha, rfl⟩ | ⟨ha, he⟩
  · have hl : (s.take en).length = en := by simp; omega
    unfold Cu.take
    rw [if_neg (by simp [cu])]
    by_cases hlt : en < a + x.length
    · have ht : (cu s en a).r.take x.length = (⟨s.take en, a⟩, [], 8) := by
        unfold Rr.take cu
        simp only [hl]
        rw [if_neg (by omega), if_pos (by omega)]
      rw [ht]
      exact ⟨.inr ⟨hlt, by simp⟩, fun h => by omega⟩
    · have ht : (cu s en a).r.take x.length = (⟨s.take en, a + x.length⟩, x, 0) := by
        unfold Rr.take cu
        simp only [hl]
        rw [if_neg (by omega), if_neg (by omega)]
        simp only [Int.toNat_natCast]
        rw [slice_of h (by omega) (by omega)]
      rw [ht]
      exact ⟨.inl ⟨by omega, rfl⟩, fun _ => rfl⟩
  · unfold Cu.take
    rw [if_pos he]
    exact ⟨.inr ⟨by omega, he⟩, fun h => by omega⟩
theorem num_Rd {n v : Nat} (hn : 1 ≤ n ∧ n ≤ 4) (hv : v < 256 ^ n) (hc : CuSt s en a c) (h : ∀ i, i < (be n v).length → s[a + i]? = (be n v)[i]?) : CuRd s en (a + n) v (c.num n) := by
  have ht := take_Rd hen hc h
  rw [be_length] at ht
  unfold Cu.num
  unfold Cu.take at ht
  split at ht
  · rename_i he
    rw [if_pos he]
    exact ⟨ht.1, fun h => by have := ht.1; rcases this with ⟨_, h2⟩ | ⟨h2, _⟩
                             · simp only at h2; rw [h2] at he; simp [cu] at he
                             · omega⟩
  · rename_i he
    rw [if_neg he]
    unfold Rr.num
    rw [if_neg (by omega)]
    refine ⟨ht.1, fun h => ?_⟩
    have := ht.2 h
    simp only at this
    simp only [this]
    exact val_be n v hv
theorem name_Rd {fo : Bool} {n : By} {b : Nat} (hs : s.length ≤ 1099511627776) (hc : CuSt s en a c) (h : Nm s fo a a n b) (hn : n.length ≤ 254) : CuRd s en b n (c.name fo) := by
  have hle := h.le
  rcases hc with ⟨ha, rfl⟩ | ⟨ha, he⟩
  · have hl : (s.take en).length = en := by simp; omega
    have hr : rdName (cu s en a).all (cu s en a).r.at' fo = (n, (b : Int), 0) := rdName_Nm h hn hs
    unfold Cu.name
    rw [if_neg (by simp [cu]), hr]
    simp only
    rw [if_neg (by simp)]
    by_cases hlt : en < b
    · rw [if_pos (by simp only [cu, hl]; omega)]
      exact ⟨.inr ⟨hlt, by simp⟩, fun h => by omega⟩
    · have hsk : (cu s en a).r.seek b = (⟨s.take en, b⟩, 0) := by
        unfold Rr.seek cu
        simp only [hl]
        rw [if_neg (by omega)]
        simp
      rw [if_neg (by simp only [cu, hl]; omega), hsk]
      simp only
      rw [if_neg (by simp)]
      exact ⟨.inl ⟨by omega, rfl⟩, fun _ => rfl⟩
  · unfold Cu.name
    rw [if_pos he]
    exact ⟨.inr ⟨by omega, he⟩, fun h => by omega⟩
/-! numbers, names in a row -/
def fillN (d0 d : Dat) : Nat → Dat
  | 0 => d0
  | k + 1 => (fillN d0 d k).setNum k (d.num k)
def fillM (d0 d : Dat) : Nat → Dat
  | 0 => d0
  | k + 1 => (fillM d0 d k).setName k ([d.name, d.mail].getD k [])
theorem nums_Rd {W : What} {d d0 : Dat} (hw : OkW2 W) (hg : GoodD W d) {x : Cu × Dat} (hx : CuRd s en a d0 x) : ∀ (k e : Nat), k ≤ W.nums.toNat → k ≤ 5 → Stand s a (numsL W d k) e →
    CuRd s en e (fillN d0 d k) (Cu.nums W.wide k x) := by
  intro k
  induction k with
  | zero => intro e _ _ h; cases h; exact hx
  | succ k ih =>
    intro e h1 h2 h
    rw [show numsL W d (k + 1) = numsL W d k ++ [.oct (be W.wide.toNat (d.num k))] by simp [numsL, List.range_succ]] at h
    obtain ⟨m, h3, h4⟩ := Stand.append.1 h
    have hy := ih m (by omega) (by omega) h3
    cases h4 with
    | oct h5 h6 =>
      cases h6
      have hf := num_fits' hw hg (show k < 5 by omega) (by omega)
      have hwd := hw.wide (by omega)
      have e1 : ((W.wide.toNat : Nat) : Int) = W.wide := by omega
      have hv : d.num k < 256 ^ W.wide.toNat := by
        have h7 := hf.2.2
        rcases hwd with h | h <;> rw [h] at h7 ⊢
        · have h8 : ((d.num k : Nat) : Int) < 65536 := h7
          show d.num k < 65536
          omega
        · have h8 : ((d.num k : Nat) : Int) < 4294967296 := h7
          show d.num k < 4294967296
          omega
      have hz := num_Rd hen (by omega) hv hy.1 h5
      rw [e1] at hz
      rw [be_length]
      refine ⟨hz.1, fun hle => ?_⟩
      show (Cu.nums W.wide k x).2.setNum k _ = _
      rw [hz.2 hle, hy.2 (by omega)]
      rfl
theorem names_Rd {W : What} {d d0 : Dat} (hg : GoodD W d) (hs : s.length ≤ 1099511627776) {x : Cu × Dat} (hx : CuRd s en a d0 x) : ∀ (k e : Nat), k ≤ 2 → Stand s a (namesL W ([d.name, d.mail].take k)) e →
    CuRd s en e (fillM d0 d k) (Cu.names (!W.plain) k x) := by
  intro k
  induction k with
  | zero => intro e _ h; cases h; exact hx
  | succ k ih =>
    intro e h2 h
    have hk : k < [d.name, d.mail].length := by simp; omega
    rw [List.take_succ_eq_append_getElem hk] at h
    rw [show namesL W ([d.name, d.mail].take k ++ [[d.name, d.mail][k]]) = namesL W ([d.name, d.mail].take k) ++ [.nam (!W.plain) [d.name, d.mail][k]] by simp only [namesL, List.map_append, List.map_cons, List.map_nil]] at h
    obtain ⟨m, h3, h4⟩ := Stand.append.1 h
    have hy := ih m (by omega) h3
    cases h4 with
    | nam h5 h6 h7 =>
      cases h7
      have hz := name_Rd hen hs hy.1 h5 h6
      refine ⟨hz.1, fun hle => ?_⟩
      show (Cu.names (!W.plain) k x).2.setName k _ = _
      have := h5.le
      rw [hz.2 hle, hy.2 (by omega)]
      simp [fillM, List.getD_eq_getElem?_getD, List.getElem?_eq_getElem hk]
end
theorem cu_e (s : By) (en a : Nat) : (cu s en a).e = 0 := rfl
theorem texts_Rd {s : By} {en : Nat} (hen : en ≤ s.length) : ∀ (l : List By) (a f : Nat) (acc : List By), (∀ x ∈ l, x.length ≤ 255) → Stand s a (textsL l) en → l.length < f →
    Cu.texts f (decide (0 < l.length)) (cu s en a) acc = (cu s en en, acc ++ l) := by
  intro l
  induction l with
  | nil =>
    intro a f acc _ h hf
    cases h
    obtain ⟨f, rfl⟩ : ∃ m, f = m + 1 := ⟨f - 1, by omega⟩
    simp [Cu.texts]
  | cons x l ih =>
    intro a f acc hx h hf
    obtain ⟨f, rfl⟩ : ∃ m, f = m + 1 := ⟨f - 1, by omega⟩
    have h255 := hx x (by simp)
    rw [show textsL (x :: l) = [.oct (be 1 x.length), .oct x] ++ textsL l from rfl] at h
    obtain ⟨m, h1, h2⟩ := Stand.append.1 h
    have hle := h2.le
    cases h1 with
    | oct h3 h4 =>
      cases h4 with
      | oct h5 h6 =>
        cases h6
        rw [be_length] at *
        have hn := num_Rd hen (v := x.length) (n := 1) (by omega) (by omega) (.inl ⟨by omega, rfl⟩ : CuSt s en a (cu s en a)) (by rw [be_length]; exact h3)
        have hv := hn.2 (by omega)
        have hst := hn.1
        rcases hst with ⟨_, hst⟩ | ⟨hbad, _⟩
        · have ht := take_Rd hen (.inl ⟨by omega, rfl⟩ : CuSt s en (a + 1) (cu s en (a + 1))) h5
          have htv := ht.2 (by omega)
          rcases ht.1 with ⟨_, hst2⟩ | ⟨hbad, _⟩
          · have htext : (cu s en a).text = (cu s en (a + 1 + x.length), x) := by
              unfold Cu.text
              simp only
              rw [show ((cu s en a).num 1) = (cu s en (a + 1), x.length) from Prod.ext hst hv]
              exact Prod.ext hst2 htv
            simp only [List.length_cons, Cu.texts, htext]
            rw [if_pos (by simp [cu_e])]
            have hl : decide (0 < (cu s en (a + 1 + x.length)).left) = decide (0 < l.length) := by
              have : (cu s en (a + 1 + x.length)).left = en - (a + 1 + x.length : Nat) := by
                unfold Cu.left cu
                have : (s.take en).length = en := by simp; omega
                simp only [this]
              rw [this]
              cases l with
              | nil => cases h2; simp
              | cons y l =>
                have h7 : a + 1 + x.length < en := by
                  rw [show textsL (y :: l) = [.oct (be 1 y.length), .oct y] ++ textsL l from rfl] at h2
                  obtain ⟨m, h1, h2⟩ := Stand.append.1 h2
                  have := h2.le
                  cases h1 with
                  | oct h8 h9 => have := h9.le; rw [be_length] at this; omega
                simp; omega
            rw [hl, ih _ f (acc ++ [x]) (fun y hy => hx y (by simp [hy])) h2 (by simpa using hf)]
            simp
          · omega
        · omega
theorem texts_none (f : Nat) (c : Cu) (l : List By) : Cu.texts f false c l = (c, l) := by cases f <;> simp [Cu.texts]
theorem val_addr {a : Ad} (ha : OkA a) (hc : adChk a = 0) : (adOf (adOct a).1).1 = a := by
  have hl := adOct_size hc
  unfold adOct at *
  rw [if_neg (by omega)] at *
  obtain ⟨six, hi, lo⟩ := a
  obtain ⟨h1, h2⟩ := ha
  simp only at h1 h2 hl ⊢
  unfold adChk at hc
  simp only at hc
  cases six with
  | false =>
    have h3 : hi = 0 ∧ lo < 4294967296 := by
      split at hc
      · cases hc
      · rename_i h; simp at h; omega
    simp only [if_true]
    unfold adOf
    rw [if_pos (be_length _ _), val_be 4 lo (by show _ < 4294967296; omega), h3.1]
  | true =>
    simp only [Bool.true_eq_false, if_false]
    unfold adOf
    rw [if_neg (by simp [be_length]), if_pos (by simp [be_length])]
    simp only
    rw [List.take_left' (by simp [be_length]), List.drop_left' (by simp [be_length]), val_be 8 hi (by show _ < 18446744073709551616; omega), val_be 8 lo (by show _ < 18446744073709551616; omega)]
theorem fill_all {W : What} {d : Dat} (hw : OkW W) (hg : GoodD W d) (ad : Ad) (had : ad = d.addr) (htx : d.texts = []) (hraw : d.raw = []) :
    fillM (fillN { Dat.zero with addr := ad } d W.nums.toNat) d W.names.toNat = d ∧ fillN (fillM { Dat.zero with addr := ad } d W.names.toNat) d W.nums.toNat = d := by
  have hb := hg.bare
  have n0 := (hb.nums 0 (by omega)).1
  have n1 := (hb.nums 1 (by omega)).1
  have n2 := (hb.nums 2 (by omega)).1
  have n3 := (hb.nums 3 (by omega)).1
  have n4 := (hb.nums 4 (by omega)).1
  have m1 := hb.name
  have m2 := hb.mail
  obtain ⟨addr, name, mail, x0, x1, x2, x3, x4, texts, raw⟩ := d
  simp only [Dat.num, List.getD_cons_zero, List.getD_cons_succ] at *
  subst had htx hraw
  have h1 := hw.nums
  have h2 := hw.names
  have hn : W.nums = 0 ∨ W.nums = 1 ∨ W.nums = 2 ∨ W.nums = 3 ∨ W.nums = 4 ∨ W.nums = 5 := by omega
  have hm : W.names = 0 ∨ W.names = 1 ∨ W.names = 2 := by omega
  rcases hn with h | h | h | h | h | h <;> rcases hm with h' | h' | h' <;> rw [h] at n0 n1 n2 n3 n4 ⊢ <;> rw [h'] at m1 m2 ⊢ <;>
    simp at n0 n1 n2 n3 n4 m1 m2 <;> simp [fillM, fillN, Dat.setNum, Dat.setName, Dat.zero, Dat.num, *]
/-- data that stands is read: up to its end, and no further -/
theorem data_Rd {W : What} {d : Dat} (hw : OkW W) (hw2 : OkW2 W) (hg : GoodD W d) {s : By} {en a e : Nat} (hen : en ≤ s.length) (hs : s.length ≤ 1099511627776) (ha : a ≤ en)
    (hst : Stand s a (flds W d) e) (hnr : W.raw = false) (hnt : W.texts = false) : CuRd s en e d ((cu s en a).data W) := by
  have hb := hg.bare
  have htx : d.texts = [] := Decidable.by_contra fun h => by have := hb.texts.2 h; rw [hnt] at this; cases this
  have hraw := hb.raw hnr
  unfold flds at hst
  rw [htx, hraw] at hst
  obtain ⟨e', hst, hl⟩ := Stand.append.1 hst
  have hl := hl.oct_inv.2.nil_inv
  simp only [List.length_nil, Nat.add_zero] at hl
  subst hl
  obtain ⟨e', hst, hl⟩ := Stand.append.1 hst
  have hl : e = e' := Stand.nil_inv hl
  subst hl
  obtain ⟨e3, hst, s4⟩ := Stand.append.1 hst
  obtain ⟨e2, hst, s3⟩ := Stand.append.1 hst
  obtain ⟨e1, s1, s2⟩ := Stand.append.1 hst
  have h0 : CuSt s en a (cu s en a) := .inl ⟨ha, rfl⟩
  have hx1 : CuRd s en e1 ({ Dat.zero with addr := d.addr } : Dat) (if 0 < W.addr then (((cu s en a).take W.addr).1, { Dat.zero with addr := (adOf ((cu s en a).take W.addr).2).1 }) else (cu s en a, Dat.zero)) := by
    split
    · rename_i hpos
      rw [if_pos hpos] at s1
      obtain ⟨h3, h4⟩ := s1.oct_inv
      have h4 := h4.nil_inv
      · obtain ⟨c1, c2⟩ := hb.addr hpos
        have hl := adOct_size c1
        have hW : ((adOct d.addr).1.length : Int) = W.addr := by
          rw [hl]
          rcases hw2.addr with h | h | h
          · omega
          · rw [if_neg (fun hs => by have := c2.1 hs; omega)]; omega
          · rw [if_pos (c2.2 h)]; omega
        have ht := take_Rd hen h0 h3
        rw [hW, ← h4] at ht
        refine ⟨ht.1, fun hle => ?_⟩
        have := ht.2 hle
        simp only [this]
        rw [val_addr hg.ok.addr c1]
    · rename_i hpos
      rw [if_neg hpos] at s1
      have h4 := s1.nil_inv
      subst h4
      refine ⟨h0, fun _ => ?_⟩
      have := hb.noaddr (by have := hw.addr; omega)
      simp only [this]
      rfl
  have hfa := fill_all hw hg d.addr rfl htx hraw
  have hnums := hw.nums
  have hnames := hw.names
  unfold Cu.data
  simp only [hnt, hnr, texts_none, Bool.false_eq_true, if_false]
  have hfin : ∀ {x : Cu × Dat}, CuRd s en e3 d x → CuRd s en e3 d (x.1, { x.2 with texts := [] }) := fun {x} hx => ⟨hx.1, fun hle => by
    have := hx.2 hle
    simp only [this]
    rw [← htx]⟩
  cases hnf : W.numsFirst with
  | true =>
    simp only [hnf] at s2 s4
    simp only [if_true] at s2 s4 ⊢
    have h4 := s4.nil_inv
    subst h4
    have hx2 := nums_Rd hen hw2 hg hx1 W.nums.toNat e2 (Nat.le_refl _) (by omega) s2
    have hx3 := names_Rd hen hg hs hx2 W.names.toNat _ (by omega) s3
    rw [hfa.1] at hx3
    exact hfin hx3
  | false =>
    simp only [hnf] at s2 s4
    simp only [Bool.false_eq_true, if_false] at s2 s4 ⊢
    have h4 := s2.nil_inv
    subst h4
    have hx3 := names_Rd hen hg hs hx1 W.names.toNat e3 (by omega) s3
    have hx4 := nums_Rd hen hw2 hg hx3 W.nums.toNat _ (Nat.le_refl _) (by omega) s4
    rw [hfa.2] at hx4
    exact ⟨hx4.1, fun hle => by
      have := hx4.2 hle
      simp only [this]
      rw [← htx]⟩
end Np
namespace Np
set_option linter.all false
theorem cu_left {s : By} {en a : Nat} (hen : en ≤ s.length) : (cu s en a).left = (en : Int) - a := by
  unfold Cu.left cu
  have : (s.take en).length = en := by simp; omega
  simp only [this]
theorem data_texts {W : What} {d : Dat} (hw : OkW W) (hw2 : OkW2 W) (hg : GoodD W d) {s : By} {en a : Nat} (hen : en ≤ s.length)
    (hst : Stand s a (flds W d) en) (ht : W.texts = true) : (cu s en a).data W = (cu s en en, d) := by
  have hb := hg.bare
  obtain ⟨h1, h2, h3, h4⟩ := hw2.texts ht
  have hne := hb.texts.1 ht
  have hraw := hb.raw h4
  have hpos : 0 < d.texts.length := List.length_pos_iff.2 hne
  unfold flds at hst
  rw [if_neg (by omega), hraw] at hst
  have e1 : namesL W (namesOf W d) = [] := by simp [namesOf, namesL, h2]
  have e2 : numsL W d W.nums.toNat = [] := by simp [numsL, h3]
  rw [e1, e2] at hst
  simp only [ite_self, List.nil_append, List.append_nil] at hst
  obtain ⟨m, g1, g2⟩ := Stand.append.1 hst
  cases g2 with
  | oct g3 g4 =>
  cases g4
  simp only [List.length_nil, Nat.add_zero] at *
  have hlen : d.texts.length ≤ m - a := by
    have : ∀ (l : List By) (a m : Nat), Stand s a (textsL l) m → a + l.length ≤ m := by
      intro l
      induction l with
      | nil => intro a m h; cases h; simp
      | cons x l ih =>
        intro a m h
        rw [show textsL (x :: l) = [.oct (be 1 x.length), .oct x] ++ textsL l from rfl] at h
        obtain ⟨k, h1, h2⟩ := Stand.append.1 h
        have := ih _ _ h2
        cases h1 with
        | oct h3 h4 => have := h4.le; rw [be_length] at this; simp; omega
    have := this _ _ _ g1
    omega
  have hl : (s.take m).length = m := by simp; omega
  have hr := texts_Rd hen d.texts a (m + 2) [] hg.texts g1 (by omega)
  rw [decide_eq_true hpos] at hr
  unfold Cu.data
  have hna : ¬ 0 < W.addr := by omega
  simp only [if_neg hna, h2, h3, Int.toNat_zero, Cu.nums, Cu.names, ite_self, ht, h4]
  have hcl : (cu s m a).r.s.length + 2 = m + 2 := by simp [cu]; omega
  rw [hcl, hr]
  simp only [Bool.false_eq_true, if_false, List.nil_append, Prod.mk.injEq, true_and]
  have n := fun i hi => (hb.nums i hi).1 (by omega)
  have n0 := n 0 (by omega)
  have n1 := n 1 (by omega)
  have n2 := n 2 (by omega)
  have n3 := n 3 (by omega)
  have n4 := n 4 (by omega)
  have m1 := hb.name (by omega)
  have m2 := hb.mail (by omega)
  have m3 := hb.noaddr h1
  obtain ⟨addr, name, mail, x0, x1, x2, x3, x4, texts, raw⟩ := d
  simp only [Dat.num, List.getD_cons_zero, List.getD_cons_succ] at *
  simp [Dat.zero, *]
theorem data_raw {W : What} (hw2 : OkW2 W) {s : By} {en a : Nat} (hen : en ≤ s.length) (ha : a ≤ en) (hr : W.raw = true) :
    (cu s en a).data W = (cu s en en, { Dat.zero with raw := ((s.take en).drop a).take (en - a) }) := by
  obtain ⟨h1, h2, h3, h4⟩ := hw2.raw hr
  have hl : (s.take en).length = en := by simp; omega
  unfold Cu.data
  have hna : ¬ 0 < W.addr := by omega
  simp only [if_neg hna, h2, h3, Int.toNat_zero, Cu.nums, Cu.names, ite_self, h4, hr, texts_none, if_true, Bool.false_eq_true, if_false]
  rw [cu_left hen]
  have ht : (cu s en a).take ((en : Int) - a) = (cu s en en, ((s.take en).drop a).take (en - a)) := by
    unfold Cu.take
    rw [if_neg (by simp [cu])]
    have : (cu s en a).r.take ((en : Int) - a) = (⟨s.take en, en⟩, ((s.take en).drop a).take (en - a), 0) := by
      unfold Rr.take cu
      simp only [hl]
      rw [if_neg (by omega), if_neg (by omega)]
      have e1 : ((en : Int) - a).toNat = en - a := by omega
      rw [e1, show a + (en - a) = en by omega]
    rw [this]
    rfl
  rw [ht]
  rfl

/-! ## reading data -/
noncomputable def rdD (s : By) (a en t : Int) : Dat × Int :=
  if a < 0 ∨ en < a ∨ s.length < en ∨ ¬ mayT t then (Dat.zero, 2)
  else
    let y := Cu.data (cu s en.toNat a.toNat) (whatOf t)
    if y.1.e ≠ 0 then (Dat.zero, y.1.e) else if 0 < y.1.left ∨ chkD t y.2 ≠ 0 then (Dat.zero, 4) else (y.2, 0)
theorem rdD_at {s : By} {t : Int} {a en : Nat} (ht : mayT t) (ha : a ≤ en) (he : en ≤ s.length) : rdD s a en t =
    if (Cu.data (cu s en a) (whatOf t)).1.e ≠ 0 then (Dat.zero, (Cu.data (cu s en a) (whatOf t)).1.e) else if 0 < (Cu.data (cu s en a) (whatOf t)).1.left ∨ chkD t (Cu.data (cu s en a) (whatOf t)).2 ≠ 0 then (Dat.zero, 4) else ((Cu.data (cu s en a) (whatOf t)).2, 0) := by
  unfold rdD
  rw [if_neg (by rintro (h | h | h | h); all_goals first | omega | exact h ht)]
  simp only [Int.toNat_natCast]
theorem chkD_ck {t : Int} {d : Dat} (h : chkD t d = 0) : ckD t d = 0 ∧ szD t d ≤ 65535 := by
  unfold chkD at h
  split at h
  · omega
  · split at h
    · cases h
    · exact ⟨by omega, by omega⟩
structure BackD (s : By) (t : Int) (d : Dat) (a e : Nat) : Prop where
  read : rdD s a e t = (d, 0)
  more : (whatOf t).raw = false → a < e
  over : (whatOf t).raw = false → (whatOf t).texts = false → e + 1 ≤ s.length → rdD s a ((e : Int) + 1) t = (Dat.zero, 4)
  under : (whatOf t).raw = false → (whatOf t).texts = false → (rdD s a ((e : Int) - 1) t).2 ≠ 0
  raw : (whatOf t).raw = true → e + 1 ≤ s.length → e + 1 ≤ a + 65535 → (rdD s a ((e : Int) + 1) t).2 = 0
theorem rdD_raw {s : By} {t : Int} {a en : Nat} (ht : mayT t) (hr : (whatOf t).raw = true) (ha : a ≤ en) (he : en ≤ s.length) (hl : en ≤ a + 65535) :
    rdD s a en t = ({ Dat.zero with raw := ((s.take en).drop a).take (en - a) }, 0) := by
  have hw := whatOf_ok t
  have hw2 := whatOf_ok2 t
  obtain ⟨h1, h2, h3, h4⟩ := hw2.raw hr
  rw [rdD_at ht ha he, data_raw hw2 he ha hr]
  simp only
  rw [if_neg (by simp [cu]), if_neg]
  rw [cu_left he]
  rintro (h | h)
  · omega
  · refine h ?_
    have hrl : (((s.take en).drop a).take (en - a)).length ≤ 65535 := by simp; omega
    have hg : GoodD (whatOf t) { Dat.zero with raw := ((s.take en).drop a).take (en - a) } := by
      refine ⟨⟨⟨by simp [Dat.zero], by simp [Dat.zero]⟩, by simp [Dat.zero], by simp [Dat.zero], fun i => ?_, by simp [Dat.zero], by simp [Dat.zero], Nat.le_trans hrl (by omega)⟩, ?_, rfl, rfl, by simp [Dat.zero]⟩
      · unfold Dat.num Dat.zero
        simp only [List.getD_eq_getElem?_getD]
        rcases i with _ | _ | _ | _ | _ | i <;> simp
      · refine ⟨fun _ => rfl, fun _ => rfl, fun h => (by rw [hr] at h; cases h), ?_, fun _ => rfl, fun h => by omega, fun i hi => ⟨fun _ => ?_, fun _ => ?_⟩⟩
        · rw [h4]; simp [Dat.zero]
        · have : i = 0 ∨ i = 1 ∨ i = 2 ∨ i = 3 ∨ i = 4 := by omega
          rcases this with rfl | rfl | rfl | rfl | rfl <;> rfl
        · have : i = 0 ∨ i = 1 ∨ i = 2 ∨ i = 3 ∨ i = 4 := by omega
          rcases this with rfl | rfl | rfl | rfl | rfl <;> simp [Dat.num, Dat.zero]
    have hc := good_ckD ht hg
    have hz : szW (whatOf t) { Dat.zero with raw := ((s.take en).drop a).take (en - a) } ≤ 65535 := by
      unfold szW
      rw [h1, h3]
      simp [namesOf, h2, Dat.zero] at hrl ⊢
      omega
    generalize ({ Dat.zero with raw := ((s.take en).drop a).take (en - a) } : Dat) = d0 at hc hz ⊢
    unfold chkD
    rw [if_neg (by omega), if_neg]
    unfold szD
    rw [if_neg (by omega)]
    omega
theorem back_of {s : By} {t : Int} {d : Dat} {a e : Nat} (hd : OkD d) (hc : chkD t d = 0) (hs : s.length ≤ 1099511627776) (he : e ≤ s.length) (hst : Stand s a (flds (whatOf t) d) e) : BackD s t d a e := by
  obtain ⟨hc1, hc2⟩ := chkD_ck hc
  obtain ⟨ht, hg⟩ := ckD_good hd hc1
  have hw := whatOf_ok t
  have hw2 := whatOf_ok2 t
  have hae := hst.le
  have hmore : (whatOf t).raw = false → a < e := by
    intro hr
    unfold flds at hst
    obtain ⟨e', hst, hl⟩ := Stand.append.1 hst
    obtain ⟨e4, hst, s5⟩ := Stand.append.1 hst
    obtain ⟨e3, hst, s4⟩ := Stand.append.1 hst
    obtain ⟨e2, hst, s3⟩ := Stand.append.1 hst
    obtain ⟨e1, s1, s2⟩ := Stand.append.1 hst
    have l1 := s1.le
    have l2 := s2.le
    have l3 := s3.le
    have l4 := s4.le
    have l5 := s5.le
    have l6 := hl.le
    cases htx : (whatOf t).texts with
    | true =>
      have hne := hg.bare.texts.1 htx
      cases h : d.texts with
      | nil => exact absurd h hne
      | cons x l =>
        rw [h, show textsL (x :: l) = [.oct (be 1 x.length), .oct x] ++ textsL l from rfl] at s5
        obtain ⟨k, g1, g2⟩ := Stand.append.1 s5
        have := g2.le
        cases g1 with
        | oct g3 g4 => have := g4.le; rw [be_length] at this; omega
    | false =>
      rcases hw2.has hr htx with h | h
      · rw [if_pos h] at s1
        have hl := adOct_size (hg.bare.addr h).1
        cases s1 with
        | oct g1 g2 =>
          have := g2.le
          rw [hl] at this
          split at this <;> omega
      · have : namesOf (whatOf t) d = d.name :: [d.mail].take ((whatOf t).names.toNat - 1) := by
          unfold namesOf
          obtain ⟨m, hm⟩ : ∃ m, (whatOf t).names.toNat = m + 1 := ⟨(whatOf t).names.toNat - 1, by omega⟩
          rw [hm]; simp
        rw [this, show namesL (whatOf t) (d.name :: [d.mail].take ((whatOf t).names.toNat - 1)) = [.nam (!(whatOf t).plain) d.name] ++ namesL (whatOf t) ([d.mail].take ((whatOf t).names.toNat - 1)) from rfl] at s3
        obtain ⟨k, g1, g2⟩ := Stand.append.1 s3
        have := g2.le
        cases g1 with
        | nam g3 g4 g5 => have := g3.le; have := g5.le; omega
  refine ⟨?_, hmore, fun hr htx hl => ?_, fun hr htx => ?_, fun hr hl hl2 => ?_⟩
  · cases hr : (whatOf t).raw with
    | true =>
      obtain ⟨h1, h2, h3, h4⟩ := hw2.raw hr
      have hz : e ≤ a + 65535 ∧ d = { Dat.zero with raw := ((s.take e).drop a).take (e - a) } := by
        unfold flds at hst
        have htx : d.texts = [] := Decidable.by_contra fun h => by have := hg.bare.texts.2 h; rw [h4] at this; cases this
        have e1 : namesL (whatOf t) (namesOf (whatOf t) d) = [] := by simp [namesOf, namesL, h2]
        have e2 : numsL (whatOf t) d (whatOf t).nums.toNat = [] := by simp [numsL, h3]
        rw [if_neg (by omega), e1, e2, htx] at hst
        simp only [ite_self, List.nil_append, textsL, List.flatMap_nil] at hst
        cases hst with
        | oct g1 g2 =>
          cases g2
          have hsz : (d.raw.length : Int) ≤ 65535 := by
            unfold szD szW at hc2
            rw [if_neg (by omega), h1, h3] at hc2
            simp [namesOf, h2, htx] at hc2
            omega
          refine ⟨by omega, ?_⟩
          have := slice_of g1 (Nat.le_refl _) he
          rw [show a + d.raw.length - a = d.raw.length by omega, this]
          have hb := hg.bare
          have n := fun i hi => (hb.nums i hi).1 (by omega)
          have n0 := n 0 (by omega)
          have n1 := n 1 (by omega)
          have n2 := n 2 (by omega)
          have n3 := n 3 (by omega)
          have n4 := n 4 (by omega)
          have m1 := hb.name (by omega)
          have m2 := hb.mail (by omega)
          have m3 := hb.noaddr h1
          clear hc hc1 hc2 hg hd hb n this g1 he hae hmore
          obtain ⟨addr, name, mail, x0, x1, x2, x3, x4, texts, raw⟩ := d
          simp only [Dat.num, List.getD_cons_zero, List.getD_cons_succ] at *
          simp [Dat.zero, *]
      rw [rdD_raw ht hr hae he hz.1, ← hz.2]
    | false =>
      cases htx : (whatOf t).texts with
      | true =>
        rw [rdD_at ht hae he, data_texts hw hw2 hg he hst htx]
        simp only
        rw [if_neg (by simp [cu]), if_neg]
        rw [cu_left he]
        rintro (h | h)
        · omega
        · exact h hc
      | false =>
        have hx := data_Rd hw hw2 hg he hs hae hst hr htx
        rw [rdD_at ht hae he]
        rcases hx.1 with ⟨_, h1⟩ | ⟨h1, _⟩
        · have h2 := hx.2 (Nat.le_refl _)
          rw [h1, h2, if_neg (by simp [cu]), if_neg]
          rw [cu_left he]
          rintro (h | h)
          · omega
          · exact h hc
        · omega
  · have hx := data_Rd hw hw2 hg hl hs (by omega) hst hr htx
    have e1 : ((e : Int) + 1) = ((e + 1 : Nat) : Int) := by omega
    rw [e1, rdD_at ht (by omega) hl]
    rcases hx.1 with ⟨_, h1⟩ | ⟨h1, _⟩
    · rw [h1, if_neg (by simp [cu]), if_pos]
      left
      rw [cu_left hl]
      omega
    · omega
  · have hlt := hmore hr
    have hx := data_Rd hw hw2 hg (show e - 1 ≤ s.length by omega) hs (by omega) hst hr htx
    have e1 : ((e : Int) - 1) = ((e - 1 : Nat) : Int) := by omega
    rw [e1, rdD_at ht (by omega) (by omega)]
    rcases hx.1 with ⟨h1, _⟩ | ⟨_, h1⟩
    · omega
    · rw [if_pos h1]; exact h1
  · have e1 : ((e : Int) + 1) = ((e + 1 : Nat) : Int) := by omega
    rw [e1, rdD_raw ht hr (by omega) hl hl2]
/-- what was put is read -/
theorem back {p : Pk} {t : Int} {d : Dat} {s : By} (hi : p.Inv) (hd : OkD d) (hc : chkD t d = 0) (he : (putD p t d).1.w.e = 0) (hs : (putD p t d).1.Ext s) (hl : s.length ≤ 1099511627776) :
    BackD s t d p.w.s.length (putD p t d).1.w.s.length ∧ p.Ext s := by
  obtain ⟨hc1, _⟩ := chkD_ck hc
  obtain ⟨ht, hg⟩ := ckD_good hd hc1
  rw [putD_eq hd hc] at he hs ⊢
  have hdid := Did.fds _ p hi (flds_ok hg) he
  obtain ⟨h1, h2⟩ := hdid.st s hs
  exact ⟨back_of hd hc hl hs.1 h2, h1⟩
theorem putD_did {p : Pk} {t : Int} {d : Dat} (hi : p.Inv) (hd : OkD d) (hc : chkD t d = 0) (he : (putD p t d).1.w.e = 0) : Did p (putD p t d).1 (flds (whatOf t) d) := by
  obtain ⟨hc1, _⟩ := chkD_ck hc
  obtain ⟨ht, hg⟩ := ckD_good hd hc1
  rw [putD_eq hd hc] at he ⊢
  exact Did.fds _ p hi (flds_ok hg) he
theorem putD_room {p : Pk} {t : Int} {d : Dat} (hi : p.Inv) (hd : OkD d) (hc : chkD t d = 0) (he : p.w.e = 0) (hr : p.w.s.length + szD t d ≤ p.w.most) : (putD p t d).1.w.e = 0 ∧ (putD p t d).2 = 0 := by
  obtain ⟨hc1, _⟩ := chkD_ck hc
  obtain ⟨ht, hg⟩ := ckD_good hd hc1
  have hl := lens_flds (whatOf_ok t) (whatOf_ok2 t) hg
  have hz : szD t d = szW (whatOf t) d := by unfold szD; rw [if_neg (by omega)]
  rw [putD_eq hd hc]
  have := putFds_room _ p hi (flds_ok hg) he (by omega)
  exact ⟨this, this⟩
theorem putD_size {p : Pk} {t : Int} {d : Dat} (hi : p.Inv) (hd : OkD d) (hc : chkD t d = 0) (he : (putD p t d).1.w.e = 0) : ((putD p t d).1.w.s.length : Int) ≤ p.w.s.length + szD t d := by
  obtain ⟨hc1, _⟩ := chkD_ck hc
  obtain ⟨ht, hg⟩ := ckD_good hd hc1
  have hl := lens_flds (whatOf_ok t) (whatOf_ok2 t) hg
  have hz : szD t d = szW (whatOf t) d := by unfold szD; rw [if_neg (by omega)]
  have := (putD_did hi hd hc he).hi
  omega
end Np
namespace Np
set_option linter.all false
/-! ## what is read is within bounds -/
theorem Rr.take_len (r : Rr) (n : Int) : (r.take n).2.1.length ≤ r.s.length := by
  unfold Rr.take
  split
  · simp
  · split
    · simp
    · simp; omega
theorem Cu.take_len (c : Cu) (n : Int) : (c.take n).2.length ≤ c.r.s.length := by
  unfold Cu.take
  split
  · simp
  · exact Rr.take_len _ _
theorem Cu.take_s (c : Cu) (n : Int) : (c.take n).1.r.s = c.r.s := (Cu.take_at c n).1
theorem Cu.num_s (c : Cu) (n : Int) : (c.num n).1.r.s = c.r.s := (Cu.num_at c n).1
theorem Rr.seek_s (r : Rr) (n : Int) : (r.seek n).1.s = r.s := by unfold Rr.seek; split <;> rfl
theorem Cu.name_s (c : Cu) (fo : Bool) : (c.name fo).1.r.s = c.r.s := by
  unfold Cu.name
  (repeat' split) <;> first | rfl | exact Rr.seek_s _ _
theorem Cu.take_all (c : Cu) (n : Int) : (c.take n).1.all = c.all := by unfold Cu.take; split <;> rfl
theorem Cu.num_all (c : Cu) (n : Int) : (c.num n).1.all = c.all := by unfold Cu.num; split <;> rfl
theorem Cu.name_all (c : Cu) (fo : Bool) : (c.name fo).1.all = c.all := by unfold Cu.name; (repeat' split) <;> rfl
theorem Cu.name_len (c : Cu) (fo : Bool) (h : c.all.length ≤ 1099511627776) : (c.name fo).2.length ≤ 254 := by
  unfold Cu.name
  split
  · simp
  · split
    · simp
    · rename_i h2
      obtain ⟨k, e, _, _, _, h3⟩ := rdName_sound (fo := fo) (a := c.r.at') h (by omega)
      split
      · simp
      · split
        · simp
        · exact h3
theorem adOf_ok (s : By) : OkA (adOf s).1 := by
  unfold adOf
  split
  · rename_i h
    have := val_lt s
    rw [h] at this
    have e : (256 : Nat) ^ 4 = 4294967296 := by decide
    exact ⟨by simp, by simp only; omega⟩
  · split
    · rename_i h
      have h1 := val_lt (s.take 8)
      have h2 := val_lt (s.drop 8)
      rw [show (s.take 8).length = 8 by simp; omega] at h1
      rw [show (s.drop 8).length = 8 by simp; omega] at h2
      have e : (256 : Nat) ^ 8 = 18446744073709551616 := by decide
      exact ⟨by simp only; omega, by simp only; omega⟩
    · exact ⟨by simp, by simp⟩
theorem zero_ok : OkD Dat.zero := ⟨⟨by simp [Dat.zero], by simp [Dat.zero]⟩, by simp [Dat.zero], by simp [Dat.zero], fun i => by
  unfold Dat.num Dat.zero
  simp only [List.getD_eq_getElem?_getD]
  rcases i with _ | _ | _ | _ | _ | i <;> simp, by simp [Dat.zero], by simp [Dat.zero], by simp [Dat.zero]⟩
theorem setNum_num (d : Dat) (i v j : Nat) : (d.setNum i v).num j ≤ max (d.num j) v := by
  unfold Dat.setNum Dat.num
  (repeat' split) <;> (simp only [List.getD_eq_getElem?_getD]; rcases j with _ | _ | _ | _ | _ | j <;> simp <;> omega)
structure DOk (s : By) (x : Cu × Dat) : Prop where
  ok : OkD x.2
  s : x.1.r.s = s
  all : x.1.all.length ≤ 1099511627776
theorem nums_ok {s : By} {wide : Int} : ∀ (k : Nat) {x : Cu × Dat}, DOk s x → DOk s (Cu.nums wide k x) := by
  intro k
  induction k with
  | zero => intro x h; exact h
  | succ k ih =>
    intro x h
    have h := ih h
    have ho := h.ok
    have hn := Cu.num_le (Cu.nums wide k x).1 wide
    refine ⟨⟨?_, ?_, ?_, fun i => ?_, ?_, ?_, ?_⟩, (Cu.num_s _ _).trans h.s, by simp only [Cu.nums, Cu.num_all]; exact h.all⟩
    all_goals simp only [Cu.nums]
    · unfold Dat.setNum; (repeat' split) <;> exact ho.addr
    · unfold Dat.setNum; (repeat' split) <;> exact ho.name
    · unfold Dat.setNum; (repeat' split) <;> exact ho.mail
    · have h1 := setNum_num (Cu.nums wide k x).2 k ((Cu.nums wide k x).1.num wide).2 i
      have h2 := ho.nums i
      omega
    · unfold Dat.setNum; (repeat' split) <;> exact ho.texts
    · unfold Dat.setNum; (repeat' split) <;> exact ho.each
    · unfold Dat.setNum; (repeat' split) <;> exact ho.raw
theorem names_ok {s : By} {fo : Bool} : ∀ (k : Nat) {x : Cu × Dat}, DOk s x → DOk s (Cu.names fo k x) := by
  intro k
  induction k with
  | zero => intro x h; exact h
  | succ k ih =>
    intro x h
    have h := ih h
    have ho := h.ok
    have hn := Cu.name_len (Cu.names fo k x).1 fo h.all
    refine ⟨?_, (Cu.name_s _ _).trans h.s, by simp only [Cu.names, Cu.name_all]; exact h.all⟩
    simp only [Cu.names]
    unfold Dat.setName
    split
    · exact ⟨ho.addr, by simp only; omega, ho.mail, ho.nums, ho.texts, ho.each, ho.raw⟩
    · exact ⟨ho.addr, ho.name, by simp only; omega, ho.nums, ho.texts, ho.each, ho.raw⟩
theorem texts_ok : ∀ (f : Nat) (more : Bool) (c : Cu) (l : List By) (n : Nat), c.r.s.length ≤ n → (∀ x ∈ l, x.length ≤ n) → (Cu.texts f more c l).1.r.s = c.r.s ∧ (Cu.texts f more c l).2.length ≤ l.length + f ∧ ∀ x ∈ (Cu.texts f more c l).2, x.length ≤ n := by
  intro f
  induction f with
  | zero => intro more c l n h1 h2; exact ⟨rfl, Nat.le_refl _, h2⟩
  | succ f ih =>
    intro more c l n h1 h2
    unfold Cu.texts
    split
    · have hs := (Cu.text_at c).1
      have hl : c.text.2.length ≤ n := by
        unfold Cu.text
        simp only
        have h3 := Cu.take_len (c.num 1).1 (c.num 1).2
        rw [Cu.num_s] at h3
        omega
      obtain ⟨i1, i2, i3⟩ := ih (decide (0 < c.text.1.left)) c.text.1 (l ++ [c.text.2]) n (by rw [hs]; exact h1) (fun x hx => by
        rcases List.mem_append.1 hx with hx | hx
        · exact h2 x hx
        · simp at hx; subst hx; exact hl)
      refine ⟨i1.trans hs, ?_, i3⟩
      simp at i2
      omega
    · exact ⟨rfl, by simp only; omega, h2⟩
theorem data_ok {c : Cu} (W : What) (hs : c.r.s.length ≤ 1048000) (ha : c.all.length ≤ 1099511627776) : OkD (c.data W).2 := by
  unfold Cu.data
  simp only
  have h1 : DOk c.r.s (if 0 < W.addr then ((c.take W.addr).1, ({ Dat.zero with addr := (adOf (c.take W.addr).2).1 } : Dat)) else (c, Dat.zero)) := by
    split
    · exact ⟨⟨adOf_ok _, zero_ok.name, zero_ok.mail, zero_ok.nums, zero_ok.texts, zero_ok.each, zero_ok.raw⟩, Cu.take_s _ _, by rw [Cu.take_all]; exact ha⟩
    · exact ⟨zero_ok, rfl, ha⟩
  generalize (if 0 < W.addr then ((c.take W.addr).1, ({ Dat.zero with addr := (adOf (c.take W.addr).2).1 } : Dat)) else (c, Dat.zero)) = x1 at *
  have h2 : DOk c.r.s (if W.numsFirst = true then Cu.nums W.wide W.nums.toNat x1 else x1) := by
    split
    · exact nums_ok _ h1
    · exact h1
  generalize (if W.numsFirst = true then Cu.nums W.wide W.nums.toNat x1 else x1) = x2 at *
  have h3 : DOk c.r.s (Cu.names (!W.plain) W.names.toNat x2) := names_ok _ h2
  generalize Cu.names (!W.plain) W.names.toNat x2 = x3 at *
  have h4 : DOk c.r.s (if W.numsFirst = true then x3 else Cu.nums W.wide W.nums.toNat x3) := by
    split
    · exact h3
    · exact nums_ok _ h3
  generalize (if W.numsFirst = true then x3 else Cu.nums W.wide W.nums.toNat x3) = x4 at *
  obtain ⟨t1, t2, t3⟩ := texts_ok (x4.1.r.s.length + 2) W.texts x4.1 [] 1048000 (by rw [h4.s]; exact hs) (fun x hx => by cases hx)
  have ho := h4.ok
  have hl := h4.s
  rw [hl] at t2
  simp only [List.length_nil, Nat.zero_add] at t2
  split
  · refine ⟨ho.addr, ho.name, ho.mail, ho.nums, ?_, fun x hx => Nat.le_trans (t3 x hx) (by decide), ?_⟩
    · simp only [hl]; omega
    · simp only
      have := Cu.take_len (Cu.texts (x4.1.r.s.length + 2) W.texts x4.1 []).1 (Cu.texts (x4.1.r.s.length + 2) W.texts x4.1 []).1.left
      rw [t1] at this
      have hll : x4.1.r.s.length = c.r.s.length := by rw [hl]
      omega
  · exact ⟨ho.addr, ho.name, ho.mail, ho.nums, by simp only [hl]; omega, fun x hx => Nat.le_trans (t3 x hx) (by decide), ho.raw⟩
end Np
namespace Np
set_option linter.all false
/-! ## records and questions -/
structure Qn where
  name : By
  typ : Int
  cls : Int
structure Rc where
  name : By
  typ : Int
  cls : Int
  ttl : Nat
  data : Dat
def mayR (n : By) (t c : Int) : Int := if chkN n ≠ 0 then chkN n else if min t c < 0 ∨ 65535 < max t c then 2 else 0
noncomputable def rcChk (r : Rc) : Int := if mayR r.name r.typ r.cls ≠ 0 then mayR r.name r.typ r.cls else chkD r.typ r.data
def qnChk (q : Qn) : Int := mayR q.name q.typ q.cls
def headP (p : Pk) (n : By) (t c : Int) : Pk := ((((p.name n).1.num t 2).1).num c 2).1
def rcHead (p : Pk) (r : Rc) : Pk := ((headP p r.name r.typ r.cls).num r.ttl 4).1
noncomputable def rcPut (p : Pk) (r : Rc) : Pk × Int :=
  if rcChk r ≠ 0 then (p, rcChk r)
  else
    let p1 := rcHead p r
    let b := p1.begin
    let x := putD b.1 r.typ r.data
    if x.2 ≠ 0 then x else x.1.fin b.2.1
def qnPut (p : Pk) (q : Qn) : Pk × Int :=
  if qnChk q ≠ 0 then (p, qnChk q) else (headP p q.name q.typ q.cls, (headP p q.name q.typ q.cls).w.e)
noncomputable def rcSize (r : Rc) : Int := if rcChk r ≠ 0 then 0 else sizeN r.name + 10 + szD r.typ r.data
/-! reading -/
structure Rk where
  s : By
  at' : Nat
  e : Int
def rkAt (s : By) (a : Int) : Rk := if a < 0 ∨ s.length < a then ⟨s, 0, 2⟩ else ⟨s, a.toNat, 0⟩
def Rk.name (c : Rk) (n : By) : Rk × By :=
  if c.e ≠ 0 then (c, n)
  else
    let x := rdName c.s c.at' true
    if x.2.2 ≠ 0 then ({ c with e := x.2.2 }, x.1) else if x.2.1 < 0 ∨ c.s.length < x.2.1 then ({ c with e := 2 }, x.1) else (⟨c.s, x.2.1.toNat, 0⟩, x.1)
def Rk.has (c : Rk) (n : Int) : Rk := if c.e = 0 ∧ (c.s.length : Int) - c.at' < n then { c with e := 8 } else c
def Rk.num (c : Rk) (n : Int) (v : Int) : Rk × Int :=
  if c.e ≠ 0 then (c, v) else let x := (Rr.mk c.s c.at').num n; (⟨c.s, x.1.at', x.2.2⟩, x.2.1)
def Dat.none : Dat := Dat.zero
def Rc.zero : Rc := ⟨[], 0, 0, 0, Dat.zero⟩
def Qn.zero : Qn := ⟨[], 0, 0⟩
noncomputable def rcRead (s : By) (a : Int) : Rc × Int × Int :=
  let x1 := (rkAt s a).name []
  let x2 := (x1.1.has 10).num 2 0
  let x3 := x2.1.num 2 0
  let x4 := x3.1.num 4 0
  let x5 := x4.1.num 2 0
  let c := x5.1.has x5.2
  if c.e ≠ 0 then (Rc.zero, 0, c.e)
  else
    let d := rdD s c.at' (c.at' + x5.2) x2.2
    if d.2 ≠ 0 then (Rc.zero, 0, d.2) else (⟨x1.2, x2.2, x3.2, x4.2.toNat, d.1⟩, c.at' + x5.2, 0)
def qnRead (s : By) (a : Int) : Qn × Int × Int :=
  let x1 := (rkAt s a).name []
  let x2 := (x1.1.has 4).num 2 0
  let x3 := x2.1.num 2 0
  if x3.1.e ≠ 0 then (Qn.zero, 0, x3.1.e) else (⟨x1.2, x2.2, x3.2⟩, x3.1.at', 0)

/-! ## what was put is read -/
structure OkQ (q : Qn) : Prop where
  name : q.name.length ≤ 1048576
structure OkR (r : Rc) : Prop where
  name : r.name.length ≤ 1048576
  ttl : r.ttl ≤ 4294967295
  data : OkD r.data
def headF (n : By) (t c : Int) : List Fd := [.nam true n, .oct (be 2 t.toNat), .oct (be 2 c.toNat)]
theorem fits2 {t : Int} (h : 0 ≤ t ∧ t ≤ 65535) : fits t 2 := ⟨by decide, by decide, by show _ < (256 : Int) ^ 2; omega⟩
theorem mayR_ok {n : By} {t c : Int} (h : mayR n t c = 0) : chkN n = 0 ∧ (0 ≤ t ∧ t ≤ 65535) ∧ (0 ≤ c ∧ c ≤ 65535) := by
  unfold mayR at h
  split at h
  · exact absurd h (by assumption)
  · split at h
    · cases h
    · refine ⟨by omega, by omega, by omega⟩
theorem headP_eq {p : Pk} {n : By} {t c : Int} (h : mayR n t c = 0) : headP p n t c = p.putFds (headF n t c) := by
  obtain ⟨h1, h2, h3⟩ := mayR_ok h
  unfold headP
  rw [Pk.num_fits (fits2 h3), Pk.num_fits (fits2 h2)]
  rfl
theorem headF_ok {n : By} {t c : Int} (h : mayR n t c = 0) : ∀ f ∈ headF n t c, f.ok := by
  intro f hf
  simp [headF] at hf
  rcases hf with rfl | rfl | rfl
  · exact (mayR_ok h).1
  · trivial
  · trivial
theorem headF_len (n : By) (t c : Int) : lens (headF n t c) = n.length + 5 := by simp [lens, headF, Fd.len, be_length]
/-- a question that stands -/
def StandQ (s : By) (a : Nat) (q : Qn) (e : Nat) : Prop := Stand s a (headF q.name q.typ q.cls) e
def StandR (s : By) (a : Nat) (r : Rc) (e : Nat) : Prop :=
  ∃ m, Stand s a (headF r.name r.typ r.cls ++ [.oct (be 4 r.ttl)]) m ∧ (∀ i, i < 2 → s[m + i]? = (be 2 (e - m - 2))[i]?) ∧ e - m - 2 ≤ 65535 ∧ Stand s (m + 2) (flds (whatOf r.typ) r.data) e
structure DidX (p p' : Pk) (n : Nat) (Q : By → Prop) : Prop where
  e : p.w.e = 0
  e' : p'.w.e = 0
  inv : p'.Inv
  begun : p'.begun = p.begun
  most : p'.w.most = p.w.most
  lo : p.w.s.length ≤ p'.w.s.length
  hi : p'.w.s.length ≤ p.w.s.length + n
  st : ∀ s, p'.Ext s → p.Ext s ∧ Q s
theorem qnPut_did {p : Pk} {q : Qn} (hi : p.Inv) (hc : qnChk q = 0) (h : (qnPut p q).2 = 0) : DidX p (qnPut p q).1 (q.name.length + 5) fun s => StandQ s p.w.s.length q (qnPut p q).1.w.s.length := by
  unfold qnPut at h ⊢
  rw [if_neg (by omega)] at h ⊢
  simp only at h ⊢
  rw [headP_eq hc] at h ⊢
  have hd := Did.fds _ p hi (headF_ok hc) h
  exact ⟨hd.e, h, hd.inv, hd.begun, hd.most, hd.lo, by have := hd.hi; rw [headF_len] at this; exact this, hd.st⟩
theorem qnPut_room {p : Pk} {q : Qn} (hi : p.Inv) (hc : qnChk q = 0) (he : p.w.e = 0) (hr : p.w.s.length + q.name.length + 5 ≤ p.w.most) : (qnPut p q).2 = 0 := by
  unfold qnPut
  rw [if_neg (by omega)]
  simp only
  rw [headP_eq hc]
  exact putFds_room _ p hi (headF_ok hc) he (by rw [headF_len]; omega)
/-! lengths that are begun and ended -/
theorem begin_did {p : Pk} (hi : p.Inv) (h : p.begin.1.w.e = 0) : p.w.e = 0 ∧ p.begin.2.1 = p.w.s.length ∧ p.begin.1.Inv ∧ p.begin.1.begun = p.begun ++ [p.w.s.length] ∧ p.begin.1.w.most = p.w.most ∧ p.begin.1.w.s = p.w.s ++ [0, 0] ∧
    ∀ s, p.begin.1.Ext s → p.Ext s := by
  have hf : fits 0 2 := fits2 (by omega)
  have hn : p.w.num 0 2 = p.w.put [0, 0] := by rw [Wr.num_fits hf]; rfl
  unfold Pk.begin at h ⊢
  simp only [hn] at h ⊢
  have hx0 : (p.w.put [0, 0]).2 = 0 := by
    rw [Wr.put_err]
    split at h <;> exact h
  obtain ⟨h0, h1, h2⟩ := Wr.put_ok hx0
  rw [if_neg (by omega)]
  simp only [h2]
  have hext : ∀ s, Pk.Ext ⟨⟨p.w.s ++ [0, 0], p.w.most, 0⟩, p.rests, p.begun ++ [p.w.s.length]⟩ s → p.Ext s := by
    rintro s ⟨hl, hs⟩
    simp only [List.length_append, List.length_cons, List.length_nil] at hl hs
    refine ⟨by omega, fun i hi hm => ?_⟩
    rw [hs i (by omega) (fun a ha => ?_), List.getElem?_append_left hi]
    simp only [List.mem_append, List.mem_singleton] at ha
    rcases ha with ha | rfl
    · exact hm a ha
    · omega
  refine ⟨h0, trivial, ⟨fun n a hn => ?_, fun a ha => ?_, by simpa using h1⟩, trivial, trivial, trivial, hext⟩
  · obtain ⟨a1, a2, a3⟩ := hi.ns n a hn
    exact ⟨a1, by simp; omega, fun s hs => a3 s (hext s hs)⟩
  · simp only [List.mem_append, List.mem_singleton] at ha
    simp only [List.length_append, List.length_cons, List.length_nil]
    rcases ha with ha | rfl
    · have := hi.pend a ha; omega
    · omega
theorem fin_did {p : Pk} {b : List Nat} {a : Nat} (hi : p.Inv) (hb : p.begun = b ++ [a]) (hpre : ∀ x ∈ b, x + 2 ≤ a) (he : p.w.e = 0) (hm : p.w.s.length ≤ 65535) : (p.fin a).2 = 0 ∧ (p.fin a).1.w.e = 0 ∧ (p.fin a).1.Inv ∧ (p.fin a).1.begun = b ∧ (p.fin a).1.w.most = p.w.most ∧
    (p.fin a).1.w.s.length = p.w.s.length ∧ ∀ s, (p.fin a).1.Ext s → p.Ext s ∧ ∀ i, i < 2 → s[a + i]? = (be 2 (p.w.s.length - a - 2))[i]? := by
  have hpa := hi.pend a (by rw [hb]; simp)
  have e1 : ((p.w.s.length : Int) - a - 2).toNat = p.w.s.length - a - 2 := by omega
  have hp : p.w.patch a (p.w.s.length - a - 2) 2 = ({ p.w with s := p.w.s.take a ++ be 2 (p.w.s.length - a - 2) ++ p.w.s.drop (a + 2) }, 0) := by
    unfold Wr.patch
    rw [if_neg (by omega), if_neg]
    · simp only [e1, Int.toNat_natCast]; rfl
    · rintro (h | h | h)
      · exact h (fits2 (by omega))
      · omega
      · omega
  have hfin : p.fin a = ({ p with begun := b, w := { p.w with s := p.w.s.take a ++ be 2 (p.w.s.length - a - 2) ++ p.w.s.drop (a + 2) } }, 0) := by
    unfold Pk.fin
    rw [if_neg (by omega), hb]
    simp only [List.getLast?_append, List.getLast?_singleton, Option.some_or, if_true, List.dropLast_concat, hp]
  have hlen : (p.w.s.take a ++ be 2 (p.w.s.length - a - 2) ++ p.w.s.drop (a + 2)).length = p.w.s.length := by
    simp only [List.length_append, List.length_take, List.length_drop, be_length]; omega
  have hgi : ∀ i, i < p.w.s.length → i ≠ a → i ≠ a + 1 → (p.w.s.take a ++ be 2 (p.w.s.length - a - 2) ++ p.w.s.drop (a + 2))[i]? = p.w.s[i]? := by
    intro i h1 h2 h3
    simp only [List.getElem?_append, List.length_append, List.length_take, be_length, List.getElem?_take, List.getElem?_drop]
    split
    · split
      · rw [if_pos (by omega)]
      · omega
    · congr 1; omega
  have hga : ∀ i, i < 2 → (p.w.s.take a ++ be 2 (p.w.s.length - a - 2) ++ p.w.s.drop (a + 2))[a + i]? = (be 2 (p.w.s.length - a - 2))[i]? := by
    intro i h1
    have : (p.w.s.take a).length = a := by simp; omega
    rw [List.append_assoc, List.getElem?_append_right (by omega), this, Nat.add_sub_cancel_left, List.getElem?_append_left (by rw [be_length]; omega)]
  have hext : ∀ s, (p.fin a).1.Ext s → p.Ext s ∧ ∀ i, i < 2 → s[a + i]? = (be 2 (p.w.s.length - a - 2))[i]? := by
    rw [hfin]
    rintro s ⟨hl, hs⟩
    simp only [hlen] at hl hs
    refine ⟨⟨hl, fun i hi hmk => ?_⟩, fun i hi => ?_⟩
    · rw [hb] at hmk
      have := hmk a (by simp)
      rw [hs i hi (fun x hx => hmk x (by simp [hx])), hgi i hi this.1 this.2]
    · rw [hs (a + i) (by omega) (fun x hx => by have := hpre x hx; omega), hga i hi]
  refine ⟨by rw [hfin], by rw [hfin]; exact he, ⟨fun n x hn => ?_, fun x hx => ?_, by rw [hfin]; simp only [hlen]; exact hi.room⟩, by rw [hfin], by rw [hfin], by rw [hfin]; exact hlen, hext⟩
  · have hr : (p.fin a).1.rests = p.rests := by rw [hfin]
    rw [hr] at hn
    obtain ⟨a1, a2, a3⟩ := hi.ns n x hn
    exact ⟨a1, by rw [hfin]; simp only [hlen]; exact a2, fun s hs => a3 s (hext s hs).1⟩
  · rw [hfin] at hx ⊢
    simp only [hlen] at hx ⊢
    have := hpre x hx
    omega
theorem rcChk_ok {r : Rc} (h : rcChk r = 0) : mayR r.name r.typ r.cls = 0 ∧ chkD r.typ r.data = 0 := by
  unfold rcChk at h
  split at h
  · exact absurd h (by assumption)
  · exact ⟨by omega, h⟩
theorem rcSize_ok {r : Rc} (h : rcChk r = 0) : rcSize r = r.name.length + 11 + szD r.typ r.data := by
  unfold rcSize
  rw [if_neg (by omega)]
  have := (mayR_ok (rcChk_ok h).1).1
  unfold sizeN
  rw [if_neg (by omega)]
  omega
theorem szD_nonneg {t : Int} {d : Dat} (hd : OkD d) (h : chkD t d = 0) : 0 ≤ szD t d := by
  obtain ⟨hc1, _⟩ := chkD_ck h
  obtain ⟨ht, hg⟩ := ckD_good hd hc1
  have hl := lens_flds (whatOf_ok t) (whatOf_ok2 t) hg
  have hz : szD t d = szW (whatOf t) d := by unfold szD; rw [if_neg (by omega)]
  omega
theorem rcHead_eq {p : Pk} {r : Rc} (ho : OkR r) (hm : mayR r.name r.typ r.cls = 0) : rcHead p r = p.putFds (headF r.name r.typ r.cls ++ [.oct (be 4 r.ttl)]) := by
  have hf : fits (r.ttl : Int) 4 := ⟨by decide, by decide, by have := ho.ttl; show _ < (256 : Int) ^ 4; omega⟩
  unfold rcHead
  rw [headP_eq hm, Pk.num_fits hf, putFds_append]
  rfl
theorem rcHead_ok {r : Rc} (hm : mayR r.name r.typ r.cls = 0) : ∀ f ∈ headF r.name r.typ r.cls ++ [.oct (be 4 r.ttl)], f.ok := by
  intro f hf
  rcases List.mem_append.1 hf with hf | hf
  · exact headF_ok hm f hf
  · simp at hf; subst hf; trivial
theorem rcHead_len (r : Rc) : lens (headF r.name r.typ r.cls ++ [.oct (be 4 r.ttl)]) = r.name.length + 9 := by rw [lens_append, headF_len]; simp [lens, Fd.len, be_length]
theorem begin_stuck {p : Pk} (h : p.w.e ≠ 0) : p.begin.1 = p := by
  have hn : p.w.num 0 2 = (p.w, p.w.e) := by rw [Wr.num_fits (fits2 (by omega)), Wr.put_stuck h]
  unfold Pk.begin
  simp only [hn]
  rw [if_pos h]
theorem rcPut_did {p : Pk} {r : Rc} (hi : p.Inv) (ho : OkR r) (hc : rcChk r = 0) (hmost : p.w.most ≤ 65535) (h : (rcPut p r).2 = 0) :
    DidX p (rcPut p r).1 (r.name.length + 11 + (szD r.typ r.data).toNat) fun s => StandR s p.w.s.length r (rcPut p r).1.w.s.length := by
  obtain ⟨hm, hcd⟩ := rcChk_ok hc
  obtain ⟨hc1, _⟩ := chkD_ck hcd
  obtain ⟨ht, hg⟩ := ckD_good ho.data hc1
  have hz0 := szD_nonneg ho.data hcd
  unfold rcPut at h ⊢
  rw [if_neg (by omega)] at h ⊢
  simp only [rcHead_eq ho hm] at h ⊢
  generalize hp1 : p.putFds (headF r.name r.typ r.cls ++ [.oct (be 4 r.ttl)]) = p1 at h ⊢
  by_cases hx : (putD p1.begin.1 r.typ r.data).2 ≠ 0
  · rw [if_pos hx] at h; exact absurd h hx
  rw [if_neg hx] at h ⊢
  have hx2 : (putD p1.begin.1 r.typ r.data).1.w.e = 0 := by
    have := putD_eq (p := p1.begin.1) ho.data hcd
    rw [this] at hx ⊢
    simpa using hx
  have hbe : p1.begin.1.w.e = 0 := by
    refine Decidable.by_contra fun hb => ?_
    rw [putD_eq ho.data hcd, putFds_stuck hb] at hx2
    exact hb hx2
  have h1e : p1.w.e = 0 := by
    refine Decidable.by_contra fun hb => ?_
    rw [begin_stuck hb] at hbe
    exact hb hbe
  have d1 : Did p p1 (headF r.name r.typ r.cls ++ [.oct (be 4 r.ttl)]) := by
    rw [← hp1]; exact Did.fds _ p hi (rcHead_ok hm) (by rw [hp1]; exact h1e)
  obtain ⟨b0, b1, b2, b3, b4, b5, b6⟩ := begin_did d1.inv hbe
  have d2 := putD_did b2 ho.data hcd hx2
  have hsz := putD_size b2 ho.data hcd hx2
  generalize hp3 : (putD p1.begin.1 r.typ r.data).1 = p3 at *
  have hbg : p3.begun = p.begun ++ [p1.w.s.length] := by rw [d2.begun, b3, d1.begun]
  have hpre : ∀ x ∈ p.begun, x + 2 ≤ p1.w.s.length := fun x hx => by have := hi.pend x hx; have := d1.lo; omega
  have hl3 : p3.w.s.length ≤ 65535 := by have := d2.inv.room; have := d2.most; have := d1.most; omega
  rw [b1] at h ⊢
  obtain ⟨f1, f2, f3, f4, f5, f6, f7⟩ := fin_did d2.inv hbg hpre hx2 hl3
  have hlb : p1.begin.1.w.s.length = p1.w.s.length + 2 := by rw [b5]; simp
  refine ⟨d1.e, f2, f3, f4, by rw [f5, d2.most, b4, d1.most], by have := d1.lo; have := d2.lo; omega, ?_, fun s hs => ?_⟩
  · have := d1.hi
    rw [rcHead_len] at this
    omega
  · obtain ⟨g1, g2⟩ := f7 s hs
    obtain ⟨g3, g4⟩ := d2.st s g1
    have g5 := b6 s g3
    obtain ⟨g6, g7⟩ := d1.st s g5
    rw [hlb] at g4
    exact ⟨g6, p1.w.s.length, g7, by rw [f6]; exact g2, by rw [f6]; omega, by rw [f6]; exact g4⟩
theorem rcPut_room {p : Pk} {r : Rc} (hi : p.Inv) (ho : OkR r) (hc : rcChk r = 0) (he : p.w.e = 0) (hmost : p.w.most ≤ 65535) (hr : p.w.s.length + r.name.length + 11 + szD r.typ r.data ≤ p.w.most) : (rcPut p r).2 = 0 := by
  obtain ⟨hm, hcd⟩ := rcChk_ok hc
  have hz0 := szD_nonneg ho.data hcd
  unfold rcPut
  rw [if_neg (by omega)]
  simp only [rcHead_eq ho hm]
  have h1e := putFds_room _ p hi (rcHead_ok hm) he (by rw [rcHead_len]; omega)
  have d1 := Did.fds _ p hi (rcHead_ok hm) h1e
  have l1 := d1.hi
  rw [rcHead_len] at l1
  generalize p.putFds (headF r.name r.typ r.cls ++ [.oct (be 4 r.ttl)]) = p1 at *
  have hn : p1.w.num 0 2 = p1.w.put [0, 0] := by rw [Wr.num_fits (fits2 (by omega))]; rfl
  have hbe : p1.begin.1.w.e = 0 := by
    have hm1 := d1.most
    have : p1.w.put [0, 0] = ({ p1.w with s := p1.w.s ++ [0, 0] }, 0) := by
      unfold Wr.put
      rw [if_neg (by omega), if_neg (by simp; omega)]
    unfold Pk.begin
    simp only [hn, this]
    rw [if_neg (by omega)]
    exact h1e
  obtain ⟨b0, b1, b2, b3, b4, b5, b6⟩ := begin_did d1.inv hbe
  have hlb : p1.begin.1.w.s.length = p1.w.s.length + 2 := by rw [b5]; simp
  have hm1 := d1.most
  obtain ⟨k1, k2⟩ := putD_room b2 ho.data hcd hbe (by omega)
  have d2 := putD_did b2 ho.data hcd k1
  have hsz := putD_size b2 ho.data hcd k1
  rw [if_neg (by omega), b1]
  have hbg : (putD p1.begin.1 r.typ r.data).1.begun = p.begun ++ [p1.w.s.length] := by rw [d2.begun, b3, d1.begun]
  have hpre : ∀ x ∈ p.begun, x + 2 ≤ p1.w.s.length := fun x hx => by have := hi.pend x hx; have := d1.lo; omega
  exact (fin_did d2.inv hbg hpre k1 (by omega)).1

/-! reading what stands -/
theorem rk_num {s : By} {a n v : Nat} (hn : 1 ≤ n ∧ n ≤ 4) (hv : v < 256 ^ n) (h : ∀ i, i < (be n v).length → s[a + i]? = (be n v)[i]?) (hl : a + n ≤ s.length) (x : Int) : (Rk.mk s a 0).num n x = (⟨s, a + n, 0⟩, (v : Int)) := by
  have hs := slice_of (s := s) (en := s.length) h (by rw [be_length]; omega) (by rw [be_length]; omega)
  rw [List.take_length, be_length] at hs
  unfold Rk.num
  rw [if_neg (by simp)]
  simp only
  unfold Rr.num
  rw [if_neg (by omega)]
  unfold Rr.take
  rw [if_neg (by omega), if_neg (by simp only; omega)]
  simp only [Int.toNat_natCast]
  rw [hs, val_be n v hv]
theorem qnRead_of {s : By} {q : Qn} {a e : Nat} (hs : s.length ≤ 1099511627776) (hc : qnChk q = 0) (h : StandQ s a q e) (he : e ≤ s.length) : qnRead s a = (q, (e : Int), 0) := by
  obtain ⟨h1, h2, h3⟩ := mayR_ok hc
  unfold StandQ headF at h
  cases h with
  | nam g1 g2 g3 =>
  rename_i b
  cases g3 with
  | oct g4 g5 =>
  cases g5 with
  | oct g6 g7 =>
  cases g7
  simp only [be_length] at *
  have hle := g1.le
  have e0 : rkAt s a = ⟨s, a, 0⟩ := by unfold rkAt; rw [if_neg (by omega)]; simp
  have e1 : (Rk.mk s a 0).name [] = (⟨s, b, 0⟩, q.name) := by
    unfold Rk.name
    rw [if_neg (by simp)]
    simp only [rdName_Nm g1 g2 hs]
    rw [if_neg (by simp), if_neg (by omega)]
    simp
  have e2 : (Rk.mk s b 0).has 4 = ⟨s, b, 0⟩ := by unfold Rk.has; rw [if_neg (by simp only; omega)]
  have e3 := rk_num (s := s) (a := b) (n := 2) (v := q.typ.toNat) (by omega) (by show _ < 65536; omega) (by rw [be_length]; exact g4) (by omega) 0
  have e4 := rk_num (s := s) (a := b + 2) (n := 2) (v := q.cls.toNat) (by omega) (by show _ < 65536; omega) (by rw [be_length]; exact g6) (by omega) 0
  unfold qnRead
  simp only [e0, e1, e2]
  rw [show ((2 : Nat) : Int) = 2 from rfl] at e3 e4
  rw [e3]
  simp only
  rw [e4]
  simp only
  rw [if_neg (by simp)]
  obtain ⟨n, t, c⟩ := q
  simp only at *
  refine Prod.ext ?_ (Prod.ext ?_ rfl)
  · simp; omega
  · simp
theorem rcRead_of {s : By} {r : Rc} {a e : Nat} (hs : s.length ≤ 1099511627776) (ho : OkR r) (hc : rcChk r = 0) (h : StandR s a r e) (he : e ≤ s.length) : rcRead s a = (r, (e : Int), 0) := by
  obtain ⟨hm, hcd⟩ := rcChk_ok hc
  obtain ⟨h1, h2, h3⟩ := mayR_ok hm
  obtain ⟨m, k1, k2, k2', k3⟩ := h
  have hb := (back_of ho.data hcd hs he k3).read
  have k4 := k3.le
  unfold headF at k1
  cases k1 with
  | nam g1 g2 g3 =>
  rename_i b
  cases g3 with
  | oct g4 g5 =>
  cases g5 with
  | oct g6 g7 =>
  cases g7 with
  | oct g8 g9 =>
  cases g9
  simp only [be_length] at *
  have hle := g1.le
  have httl := ho.ttl
  have e0 : rkAt s a = ⟨s, a, 0⟩ := by unfold rkAt; rw [if_neg (by omega)]; simp
  have e1 : (Rk.mk s a 0).name [] = (⟨s, b, 0⟩, r.name) := by
    unfold Rk.name
    rw [if_neg (by simp)]
    simp only [rdName_Nm g1 g2 hs]
    rw [if_neg (by simp), if_neg (by omega)]
    simp
  have e2 : (Rk.mk s b 0).has 10 = ⟨s, b, 0⟩ := by unfold Rk.has; rw [if_neg (by simp only; omega)]
  have e3 := rk_num (s := s) (a := b) (n := 2) (v := r.typ.toNat) (by omega) (by show _ < 65536; omega) (by rw [be_length]; exact g4) (by omega) 0
  have e4 := rk_num (s := s) (a := b + 2) (n := 2) (v := r.cls.toNat) (by omega) (by show _ < 65536; omega) (by rw [be_length]; exact g6) (by omega) 0
  have e5 := rk_num (s := s) (a := b + 2 + 2) (n := 4) (v := r.ttl) (by omega) (by show _ < 4294967296; omega) (by rw [be_length]; exact g8) (by omega) 0
  have e6 := rk_num (s := s) (a := b + 2 + 2 + 4) (n := 2) (v := e - (b + 2 + 2 + 4) - 2) (by omega) (by show _ < 65536; omega) (by rw [be_length]; exact k2) (by omega) 0
  have e7 : (Rk.mk s (b + 2 + 2 + 4 + 2) 0).has ((e - (b + 2 + 2 + 4) - 2 : Nat) : Int) = ⟨s, b + 2 + 2 + 4 + 2, 0⟩ := by unfold Rk.has; rw [if_neg (by simp only; omega)]
  rw [show ((2 : Nat) : Int) = 2 from rfl] at e3 e4 e6
  rw [show ((4 : Nat) : Int) = 4 from rfl] at e5
  unfold rcRead
  simp only [e0, e1, e2, e3, e4, e5, e6, e7]
  rw [if_neg (by simp)]
  have e8 : ((b + 2 + 2 + 4 + 2 : Nat) : Int) + ((e - (b + 2 + 2 + 4) - 2 : Nat) : Int) = (e : Int) := by omega
  have e9 : ((r.typ.toNat : Nat) : Int) = r.typ := by omega
  have e10 : ((r.cls.toNat : Nat) : Int) = r.cls := by omega
  rw [e8, e9, e10, hb]
  simp only
  rw [if_neg (by simp)]
  simp
end Np
namespace Np
set_option linter.all false
theorem num_cases {d : Dat} {P : Nat → Prop} (h0 : P d.n0) (h1 : P d.n1) (h2 : P d.n2) (h3 : P d.n3) (h4 : P d.n4) (hz : P 0) (i : Nat) : P (d.num i) := by
  unfold Dat.num
  simp only [List.getD_eq_getElem?_getD]
  rcases i with _ | _ | _ | _ | _ | i
  · exact h0
  · exact h1
  · exact h2
  · exact h3
  · exact h4
  · simpa using hz
theorem chkD_of {t : Int} {d : Dat} (ht : mayT t) (hg : GoodD (whatOf t) d) (hz : szW (whatOf t) d ≤ 65535) : chkD t d = 0 := by
  have hc := good_ckD ht hg
  unfold chkD
  rw [if_neg (by omega), if_neg]
  unfold szD
  rw [if_neg (by omega)]
  omega
def lightN (d : Dat) : Int := d.raw.length + d.name.length + d.mail.length + (d.texts.map fun x => (x.length + 1 : Int)).sum
/-- data with texts alone, with raw octets alone -/
def dTexts (l : List By) : Dat := { Dat.zero with texts := l }
def dRaw (r : By) : Dat := { Dat.zero with raw := r }
theorem dTexts_ok {l : List By} (h1 : l.length ≤ 1048576) (h2 : ∀ x ∈ l, x.length ≤ 1048576) : OkD (dTexts l) := ⟨zero_ok.addr, zero_ok.name, zero_ok.mail, zero_ok.nums, h1, h2, zero_ok.raw⟩
theorem dRaw_ok {r : By} (h : r.length ≤ 1048576) : OkD (dRaw r) := ⟨zero_ok.addr, zero_ok.name, zero_ok.mail, zero_ok.nums, zero_ok.texts, zero_ok.each, h⟩
theorem dTexts_bare {l : List By} (h : l ≠ []) : Bare (whatOf 16) (dTexts l) := by
  refine ⟨fun _ => rfl, fun _ => rfl, fun _ => rfl, ?_, fun _ => rfl, fun h => ?_, fun i hi => ⟨fun _ => ?_, fun h => ?_⟩⟩
  · exact ⟨fun _ => h, fun _ => by decide⟩
  · exact absurd h (by decide)
  · have : i = 0 ∨ i = 1 ∨ i = 2 ∨ i = 3 ∨ i = 4 := by omega
    rcases this with rfl | rfl | rfl | rfl | rfl <;> rfl
  · exact absurd h (by decide)
theorem dTexts_good {l : List By} (h : l ≠ []) (h1 : l.length ≤ 1048576) (h2 : ∀ x ∈ l, x.length ≤ 255) : GoodD (whatOf 16) (dTexts l) :=
  ⟨dTexts_ok h1 fun x hx => Nat.le_trans (h2 x hx) (by decide), dTexts_bare h, rfl, rfl, h2⟩
theorem dTexts_long {l : List By} (h : l ≠ []) (h3 : ∃ x ∈ l, 255 < x.length) : chkD 16 (dTexts l) = 3 := by
  have hc : ckD 16 (dTexts l) = 3 := by
    unfold ckD
    rw [if_neg, if_neg, if_neg]
    · exact if_pos h3
    · show ¬ chkN [] ≠ 0; decide
    · show ¬ chkN [] ≠ 0; decide
    · rintro (h1 | h1)
      · exact h1 (by decide)
      · exact h1 (dTexts_bare h)
  unfold chkD
  rw [if_pos (by omega), hc]
theorem dRaw_good {r : By} (h : r.length ≤ 1048576) : GoodD (whatOf 9999) (dRaw r) := by
  refine ⟨dRaw_ok h, ⟨fun _ => rfl, fun _ => rfl, fun h => absurd h (by decide), ?_, fun _ => rfl, fun h => absurd h (by decide), fun i hi => ⟨fun _ => ?_, fun h => absurd h (by decide)⟩⟩, rfl, rfl, fun x hx => by cases hx⟩
  · exact ⟨fun h => absurd h (by decide), fun h => absurd rfl h⟩
  · have : i = 0 ∨ i = 1 ∨ i = 2 ∨ i = 3 ∨ i = 4 := by omega
    rcases this with rfl | rfl | rfl | rfl | rfl <;> rfl
/-- texts, each behind its length -/
def textsB (l : List By) : By := l.flatMap fun x => be 1 x.length ++ x
theorem textsB_len (l : List By) : ((textsB l).length : Int) = (l.map fun x => (1 + x.length : Int)).sum := by
  induction l with
  | nil => rfl
  | cons x l ih =>
    simp only [textsB, List.flatMap_cons, List.length_append, List.map_cons, List.sum_cons, be_length] at ih ⊢
    omega
theorem textsB_snoc (l : List By) (x : By) : textsB (l ++ [x]) = textsB l ++ (be 1 x.length ++ x) := by simp [textsB]
theorem textsB_le {l : List By} {n : Nat} (h : ∀ x ∈ l, x.length ≤ 255) (hn : l.length ≤ n) : (textsB l).length ≤ n * 256 := by
  have : ∀ l : List By, (∀ x ∈ l, x.length ≤ 255) → (textsB l).length ≤ l.length * 256 := by
    intro l
    induction l with
    | nil => intro _; simp [textsB]
    | cons x l ih =>
      intro h
      have h3 := h x (by simp)
      have h4 := ih fun y hy => h y (by simp [hy])
      simp only [textsB, List.flatMap_cons, List.length_append, be_length, List.length_cons] at h4 ⊢
      omega
  exact Nat.le_trans (this l h) (Nat.mul_le_mul_right _ hn)
/-- octets that are put stand behind what stands -/
def octs : List Fd → Option By
  | [] => some []
  | .oct x :: l => (octs l).map (x ++ ·)
  | .nam _ _ :: _ => none
theorem putFds_octs : ∀ (l : List Fd) (p : Pk) (y : By), octs l = some y → (p.putFds l).w.e = 0 → p.w.e = 0 → (p.putFds l).w.s = p.w.s ++ y := by
  intro l
  induction l with
  | nil => intro p y h _ _; cases h; simp [Pk.putFds]
  | cons f l ih =>
    intro p y h he hp
    cases f with
    | nam fo n => cases h
    | oct x =>
      simp only [octs, Option.map_eq_some_iff] at h
      obtain ⟨z, hz, rfl⟩ := h
      have e : p.putFds (.oct x :: l) = ((p.put x).1).putFds l := rfl
      rw [e] at he ⊢
      have h1 : (p.put x).1.w.e = 0 := by
        refine Decidable.by_contra fun h => ?_
        rw [putFds_stuck h] at he; exact h he
      rw [ih _ z hz he h1]
      have h0 : (p.put x).2 = 0 := by rw [← h1]; exact Wr.put_err _ _
      obtain ⟨_, _, h2⟩ := Wr.put_ok h0
      simp only [h2, List.append_assoc]
def pk0 : Pk := ⟨⟨[], 65535, 0⟩, fun _ => none, []⟩
theorem pk0_inv : pk0.Inv := ⟨(fun n a h => by cases h), (fun a h => by cases h), Nat.zero_le _⟩
theorem pk0_len : pk0.w.s.length = 0 := rfl
theorem pk0_most : pk0.w.most = 65535 := rfl
theorem octs_texts : ∀ l : List By, octs (textsL l ++ [.oct []]) = some (textsB l) := by
  intro l
  induction l with
  | nil => rfl
  | cons x l ih =>
    rw [show textsL (x :: l) ++ [Fd.oct []] = .oct (be 1 x.length) :: .oct x :: (textsL l ++ [.oct []]) from rfl]
    simp only [octs, ih, Option.map_some]
    simp [textsB]
theorem what16 : whatOf 16 = ⟨[84, 88, 84], 0, 0, false, false, 0, 0, true, false⟩ := by simp [whatOf, wlist, findW]
theorem what9999 : whatOf 9999 = rawW := by simp [whatOf, wlist, findW]
theorem flds16 (l : List By) : flds (whatOf 16) (dTexts l) = textsL l ++ [.oct []] := by rw [what16]; simp [flds, namesL, namesOf, dTexts, Dat.zero, numsL]
theorem texts_put {l : List By} (h : l ≠ []) (h1 : l.length ≤ 20) (h2 : ∀ x ∈ l, x.length ≤ 255) : (putD pk0 16 (dTexts l)).2 = 0 ∧ (putD pk0 16 (dTexts l)).1.w.s = textsB l ∧ szD 16 (dTexts l) = (textsB l).length ∧ chkD 16 (dTexts l) = 0 := by
  have hg := dTexts_good h (by omega) h2
  have hz : szW (whatOf 16) (dTexts l) = (textsB l).length := by
    rw [textsB_len]
    rw [what16]
    simp [szW, dTexts, namesOf, Dat.zero]
  have hb : (textsB l).length ≤ 5120 := by
    have : ∀ l : List By, (∀ x ∈ l, x.length ≤ 255) → (textsB l).length ≤ l.length * 256 := by
      intro l
      induction l with
      | nil => intro _; simp [textsB]
      | cons x l ih =>
        intro h
        have h3 := h x (by simp)
        have h4 := ih fun y hy => h y (by simp [hy])
        simp only [textsB, List.flatMap_cons, List.length_append, be_length, List.length_cons] at h4 ⊢
        omega
    have := this l h2
    omega
  have hc : chkD 16 (dTexts l) = 0 := chkD_of (by decide) hg (by omega)
  have hok : OkD (dTexts l) := hg.ok
  have hs : szD 16 (dTexts l) = (textsB l).length := by
    unfold szD
    rw [if_neg (by have := (chkD_ck hc).1; omega), hz]
  obtain ⟨r1, r2⟩ := putD_room (p := pk0) pk0_inv hok hc rfl (by rw [hs, pk0_len, pk0_most]; omega)
  refine ⟨r2, ?_, hs, hc⟩
  rw [putD_eq hok hc] at r1 ⊢
  have := putFds_octs (flds (whatOf 16) (dTexts l)) pk0 (textsB l) (by rw [flds16]; exact octs_texts l) r1 rfl
  simpa [pk0] using this
theorem raw_put {r : By} (h : r.length ≤ 1500) : (putD pk0 9999 (dRaw r)).2 = 0 ∧ (putD pk0 9999 (dRaw r)).1.w.s = r ∧ (rdD r 0 r.length 9999) = (dRaw r, 0) := by
  have hg := dRaw_good (r := r) (by omega)
  have hz : szW (whatOf 9999) (dRaw r) = r.length := by
    show (0 : Int) + 0 * 0 + r.length + 0 + 0 = _
    omega
  have hc : chkD 9999 (dRaw r) = 0 := chkD_of (by decide) hg (by omega)
  have hs : szD 9999 (dRaw r) = r.length := by
    unfold szD
    rw [if_neg (by have := (chkD_ck hc).1; omega), hz]
  obtain ⟨r1, r2⟩ := putD_room (p := pk0) pk0_inv hg.ok hc rfl (by rw [hs, pk0_len, pk0_most]; omega)
  refine ⟨r2, ?_, ?_⟩
  · rw [putD_eq hg.ok hc] at r1 ⊢
    have := putFds_octs (flds (whatOf 9999) (dRaw r)) pk0 r (by show some (r ++ []) = some r; simp) r1 rfl
    simpa [pk0] using this
  · have := rdD_raw (s := r) (t := 9999) (a := 0) (en := r.length) (by decide) (by decide) (by omega) (Nat.le_refl _) (by omega)
    rw [show rdD r 0 r.length 9999 = rdD r ((0 : Nat) : Int) r.length 9999 from rfl, this]
    simp [dRaw]
/-! the chapter's example -/
def dLive : Dat := { Dat.zero with addr := ⟨false, 0, 16909060⟩ }
theorem dLive_good : GoodD (whatOf 1) dLive := by
  refine ⟨⟨⟨by decide, by decide⟩, by decide, by decide, fun i => num_cases (d := dLive) (P := (· ≤ 4294967295)) (by decide) (by decide) (by decide) (by decide) (by decide) (by decide) i, by decide, (fun x hx => by cases hx), by decide⟩, ⟨fun _ => rfl, fun _ => rfl, fun _ => rfl, ?_, fun h => absurd h (by decide), fun _ => by decide, fun i hi => ⟨fun _ => ?_, fun h => absurd h (by decide)⟩⟩, rfl, rfl, fun x hx => by cases hx⟩
  · exact ⟨fun h => absurd h (by decide), fun h => absurd rfl h⟩
  · have : i = 0 ∨ i = 1 ∨ i = 2 ∨ i = 3 ∨ i = 4 := by omega
    rcases this with rfl | rfl | rfl | rfl | rfl <;> rfl
theorem live_read : rdD [1, 2, 3, 4] 0 4 1 = (dLive, 0) := by
  have hc : chkD 1 dLive = 0 := chkD_of (by decide) dLive_good (by decide)
  have hst : Stand [1, 2, 3, 4] 0 (flds (whatOf 1) dLive) 4 := by
    show Stand [1, 2, 3, 4] 0 [.oct [1, 2, 3, 4], .oct []] 4
    exact .oct (fun i hi => by simp) (.oct (fun i hi => by simp at hi) .nil)
  exact (back_of dLive_good.ok hc (by decide) (by decide) hst).read
def dMx : Dat := { Dat.zero with name := [1, 97, 1, 98], n0 := 10 }
theorem dMx_good : GoodD (whatOf 15) dMx := by
  refine ⟨⟨⟨by decide, by decide⟩, by decide, by decide, fun i => num_cases (d := dMx) (P := (· ≤ 4294967295)) (by decide) (by decide) (by decide) (by decide) (by decide) (by decide) i, by decide, (fun x hx => by cases hx), by decide⟩, ⟨fun h => absurd h (by decide), fun _ => rfl, fun _ => rfl, ?_, fun _ => rfl, fun h => absurd h (by decide), fun i hi => ?_⟩, rfl, rfl, fun x hx => by cases hx⟩
  · exact ⟨fun h => absurd h (by decide), fun h => absurd rfl h⟩
  · have : i = 0 ∨ i = 1 ∨ i = 2 ∨ i = 3 ∨ i = 4 := by omega
    rcases this with rfl | rfl | rfl | rfl | rfl <;> decide
theorem live_size : szD 15 dMx = 7 := by
  have hc := good_ckD (t := 15) (by decide) dMx_good
  unfold szD
  rw [if_neg (by omega)]
  decide
end Np
namespace Np
set_option linter.all false
theorem putD_zero {p : Pk} {t : Int} {d : Dat} (hd : OkD d) (h : (putD p t d).2 = 0) : chkD t d = 0 ∧ (putD p t d).1.w.e = 0 := by
  have hc : chkD t d = 0 := by
    refine Decidable.by_contra fun hc => ?_
    unfold putD at h
    rw [if_pos hc] at h
    exact hc h
  rw [putD_eq hd hc] at h ⊢
  exact ⟨hc, h⟩
theorem ext_self {p : Pk} (h : p.begun = []) (y : By) : p.Ext (p.w.s ++ y) := ⟨by simp, fun i hi _ => by rw [List.getElem?_append_left hi]⟩
theorem unlike_one {t : Int} {d : Dat} (hd : OkD d) (h : (putD pk0 t d).2 = 0) : rdD (putD pk0 t d).1.w.s 0 (putD pk0 t d).1.w.s.length t = (d, 0) := by
  obtain ⟨hc, he⟩ := putD_zero hd h
  have hdid := putD_did pk0_inv hd hc he
  have hl : (putD pk0 t d).1.w.s.length ≤ 65535 := by
    have := hdid.inv.room
    have := hdid.most
    have := pk0_most
    omega
  have hx : (putD pk0 t d).1.Ext (putD pk0 t d).1.w.s := by
    have := ext_self (p := (putD pk0 t d).1) (hdid.begun.trans rfl) []
    rwa [List.append_nil] at this
  have := (back pk0_inv hd hc he hx (by omega)).1.read
  exact this
theorem unlike {t : Int} {a b : Dat} (ha : OkD a) (hb : OkD b) (h1 : (putD pk0 t a).2 = 0) (h2 : (putD pk0 t b).2 = 0) : (putD pk0 t a).1.w.s = (putD pk0 t b).1.w.s ↔ a = b := by
  constructor
  · intro h
    have g1 := unlike_one ha h1
    have g2 := unlike_one hb h2
    rw [h, g2] at g1
    exact (congrArg Prod.fst g1).symm
  · intro h; rw [h]
theorem lightSz {W : What} {d : Dat} (hw : OkW W) (hg : GoodD W d) : szW W d ≤ lightN d + 38 := by
  have hmul : W.nums * W.wide ≤ 20 := by
    have h1 := hw.nums
    have h2 := hw.wide
    have : W.nums = 0 ∨ W.nums = 1 ∨ W.nums = 2 ∨ W.nums = 3 ∨ W.nums = 4 ∨ W.nums = 5 := by omega
    rcases this with h | h | h | h | h | h <;> rw [h] <;> omega
  have ha := hw.addr
  have hs1 : sizeN d.name ≤ d.name.length + 1 ∧ 0 ≤ sizeN d.name := by unfold sizeN; split <;> omega
  have hs2 : sizeN d.mail ≤ d.mail.length + 1 ∧ 0 ≤ sizeN d.mail := by unfold sizeN; split <;> omega
  have hn : ((namesOf W d).map sizeN).sum ≤ d.name.length + d.mail.length + 2 := by
    unfold namesOf
    have h2 := hw.names
    have : W.names = 0 ∨ W.names = 1 ∨ W.names = 2 := by omega
    rcases this with h | h | h <;> rw [h] <;> simp <;> omega
  have ht : (d.texts.map fun x => (1 + x.length : Int)).sum = (d.texts.map fun x => (x.length + 1 : Int)).sum := by
    congr 1
    apply List.map_congr_left
    intro x _; omega
  unfold szW lightN
  rw [ht]
  omega
theorem ahead_ok {n : By} : (pk0.name n).1.Inv ∧ (pk0.name n).1.w.e = 0 ∧ (pk0.name n).1.w.s.length ≤ 255 ∧ (pk0.name n).1.w.most = 65535 ∧ (pk0.name n).1.begun = [] := by
  by_cases hc : chkN n = 0
  · obtain ⟨hl, ho⟩ := chkN_ok hc
    have hr : ¬ pk0.ready n ≠ 0 := by unfold Pk.ready; rw [if_neg (by simp [pk0])]; omega
    have hn : pk0.name n = pk0.nameF n.length n := by unfold Pk.name; rw [if_neg hr]
    have h0 := nameF_room n.length pk0 n (Nat.le_refl _) ho rfl (by rw [pk0_len, pk0_most]; omega) pk0_inv.far
    have he : (pk0.name n).1.w.e = 0 := by rw [hn, ← nameF_err _ _ _ (Nat.le_refl _) pk0_inv.far]; exact h0
    have hd := (Did.name pk0_inv hc he).2
    have := hd.hi
    rw [pk0_len] at this
    simp [lens, Fd.len] at this
    exact ⟨hd.inv, he, by omega, hd.most.trans pk0_most, hd.begun⟩
  · have : pk0.name n = (pk0, chkN n) := by
      unfold Pk.name
      have hr : pk0.ready n = chkN n := by unfold Pk.ready; rw [if_neg (by simp [pk0])]
      rw [hr, if_pos hc]
    rw [this]
    exact ⟨pk0_inv, rfl, by simp [pk0], rfl, rfl⟩
/-- the law of reading back -/
theorem back_law {n : By} {t : Int} {d : Dat} (hd : OkD d) (hc : chkD t d = 0) (hl : lightN d ≤ 2000) :
    (putD (pk0.name n).1 t d).2 = 0 ∧ ((putD (pk0.name n).1 t d).1.w.s.length : Int) ≤ (pk0.name n).1.w.s.length + szD t d ∧ (putD (pk0.name n).1 t d).1.w.s.length ≤ 3000 ∧ (pk0.name n).1.w.s.length ≤ (putD (pk0.name n).1 t d).1.w.s.length ∧
    BackD ((putD (pk0.name n).1 t d).1.w.s ++ [0]) t d (pk0.name n).1.w.s.length (putD (pk0.name n).1 t d).1.w.s.length := by
  obtain ⟨a1, a2, a3, a4, a5⟩ := ahead_ok (n := n)
  obtain ⟨hc1, hc2⟩ := chkD_ck hc
  obtain ⟨ht, hg⟩ := ckD_good hd hc1
  have hz : szD t d = szW (whatOf t) d := by unfold szD; rw [if_neg (by omega)]
  have hlz := lightSz (whatOf_ok t) hg
  obtain ⟨r1, r2⟩ := putD_room a1 hd hc a2 (by rw [a4]; omega)
  have hdid := putD_did a1 hd hc r1
  have hsz := putD_size a1 hd hc r1
  have hx := ext_self (p := (putD (pk0.name n).1 t d).1) (hdid.begun.trans a5) [0]
  refine ⟨r2, hsz, by omega, hdid.lo, (back a1 hd hc r1 hx ?_).1⟩
  simp
  omega
theorem back_len (s : By) : (s ++ [0]).length = s.length + 1 := by simp
theorem known_raw {t : Int} : (knownT t = false ∨ t = 41) ↔ (whatOf t).raw = true := by
  unfold knownT whatOf
  by_cases h41 : t = 41
  · subst h41; simp [wlist, findW]
  · simp only [h41, or_false]
    cases h : findW wlist t with
    | none => simp [rawW]
    | some w =>
      simp only [Option.isSome_some, Option.getD_some]
      simp only [wlist, findW] at h
      repeat' split at h
      all_goals first | (cases h; done) | (exact absurd (by assumption) h41) | (cases h; simp) 
theorem texts_16 {t : Int} (h : t ≠ 16) : (whatOf t).texts = false := by
  unfold whatOf
  cases hf : findW wlist t with
  | none => rfl
  | some w =>
    simp only [wlist, findW] at hf
    repeat' split at hf
    all_goals first | (cases hf; done) | (exact absurd (by assumption) h) | (cases hf; rfl)
theorem texts_16' : (whatOf 16).texts = true ∧ (whatOf 16).raw = false := by rw [what16]; exact ⟨rfl, rfl⟩
end Np
namespace Np
set_option linter.all false
/-! the chapter's examples -/
def rLive : Rc := ⟨[1, 97, 1, 98], 1, 1, 5, dLive⟩
def pk99 : Pk := ⟨⟨[], (max (0 : Int) (min 99 65535)).toNat, 0⟩, fun _ => none, []⟩
theorem rLive_ok : OkR rLive := ⟨by decide, by decide, dLive_good.ok⟩
theorem rLive_chkD : chkD 1 dLive = 0 := chkD_of (by decide) dLive_good (by decide)
theorem rLive_chk : rcChk rLive = 0 := by
  unfold rcChk
  rw [if_neg (by decide)]
  exact rLive_chkD
theorem rLive_size : rcSize rLive = 19 := by
  rw [rcSize_ok rLive_chk]
  have : szD 1 dLive = 4 := by
    unfold szD
    rw [if_neg (by have := (chkD_ck rLive_chkD).1; omega)]
    decide
  show (4 : Int) + 11 + szD 1 dLive = 19
  omega
theorem rLive_put : (rcPut pk99 rLive).2 = 0 ∧ (rcPut pk99 rLive).1.w.s = [1, 97, 1, 98, 0, 0, 1, 0, 1, 0, 0, 0, 5, 0, 4, 1, 2, 3, 4] := by
  unfold rcPut
  rw [if_neg (by rw [rLive_chk]; decide)]
  simp only
  rw [show rLive.typ = 1 from rfl, show rLive.data = dLive from rfl, putD_eq dLive_good.ok rLive_chkD]
  refine ⟨by rfl, by rfl⟩
theorem read1 : (rcRead [0, 0, 1, 0, 1, 0, 0, 0, 5, 0, 5, 1, 2, 3, 4] 0).2.2 = 8 := by
  unfold rcRead
  rfl
theorem read2 : (rcRead [0, 0, 1, 0, 1, 0, 0, 0, 5, 0, 5, 1, 2, 3, 4, 5] 0).2.2 = 4 := by
  unfold rcRead
  rfl
theorem read3 : (rcRead [0, 0, 1, 0, 1, 0, 0, 0, 5, 0] 0).2.2 = 8 := by
  unfold rcRead
  rfl
def qLow : Qn := ⟨[1, 97], 28, 1⟩
theorem read4 : qnRead [120, 1, 97, 0, 0, 28, 0, 1] 1 = (qLow, 8, 0) := by
  unfold qnRead
  rfl
theorem read5 : (qnRead [0, 0, 28, 0] 0).2.2 = 8 := by
  unfold qnRead
  rfl
def rTyp (t : Int) : Rc := ⟨[], t, 0, 0, Dat.zero⟩
theorem rTyp_ok (t : Int) : OkR (rTyp t) := ⟨by simp [rTyp], by simp [rTyp], zero_ok⟩
theorem chk1 : rcChk (rTyp 65536) = 2 := by unfold rcChk; rw [if_pos (by decide)]; decide
def rNul : Rc := ⟨[0], 0, 0, 0, Dat.zero⟩
theorem rNul_ok : OkR rNul := ⟨by decide, by decide, zero_ok⟩
def qNeg : Qn := ⟨[], 0, -1⟩
def qUp : Qn := ⟨[1, 65], 28, 1⟩
theorem chk2 : rcChk rNul = 4 := by unfold rcChk; rw [if_pos (by decide)]; decide
theorem chk3 : qnChk qNeg = 2 := by decide
theorem chk4 : rcSize (rTyp (-1)) = 0 := by unfold rcSize; rw [if_pos (by unfold rcChk; rw [if_pos (by decide)]; decide)]
end Np
