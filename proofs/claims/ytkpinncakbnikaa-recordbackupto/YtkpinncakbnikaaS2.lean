import Derived.Test.YtkpinncakbnikaaS1
namespace Np
set_option linter.all false
/-! ## one behind the other -/
inductive X where
  | ofQ (q : Qn)
  | ofR (r : Rc)
def X.St (s : By) (a : Nat) (x : X) (e : Nat) : Prop :=
  match x with
  | .ofQ q => StandQ s a q e
  | .ofR r => StandR s a r e
structure PutX (p : Pk) (xs : List X) (ends : List Nat) : Prop where
  inv : p.Inv
  e : p.w.e = 0
  begun : p.begun = []
  most : p.w.most = 65535
  len : ends.length = xs.length
  last : p.w.s.length = (0 :: ends).getD ends.length 0
  le : ∀ x ∈ ends, x ≤ p.w.s.length
  st : ∀ s, p.Ext s → ∀ (i : Nat) (x : X) (e : Nat), xs[i]? = some x → ends[i]? = some e → x.St s ((0 :: ends).getD i 0) e
theorem PutX.zero : PutX pk0 [] [] := ⟨pk0_inv, rfl, rfl, pk0_most, rfl, by rw [pk0_len]; rfl, (fun x h => by cases h), fun s _ i x e h _ => by simp at h⟩
theorem PutX.snoc {p p' : Pk} {xs : List X} {ends : List Nat} {x : X} {n : Nat} (h : PutX p xs ends) (hd : DidX p p' n fun s => x.St s p.w.s.length p'.w.s.length) : PutX p' (xs ++ [x]) (ends ++ [p'.w.s.length]) := by
  have hlo := hd.lo
  refine ⟨hd.inv, hd.e', hd.begun.trans h.begun, hd.most.trans h.most, by simp [h.len], ?_, ?_, ?_⟩
  · simp [List.getD_eq_getElem?_getD]
  · intro y hy
    rcases List.mem_append.1 hy with hy | hy
    · have := h.le y hy; omega
    · simp at hy; omega
  · intro s hs i y e hi he
    obtain ⟨g1, g2⟩ := hd.st s hs
    have hil : i < (xs ++ [x]).length := by
      rcases Nat.lt_or_ge i (xs ++ [x]).length with h' | h'
      · exact h'
      · rw [List.getElem?_eq_none h'] at hi; cases hi
    simp only [List.length_append, List.length_cons, List.length_nil] at hil
    have e0 : (0 :: (ends ++ [p'.w.s.length])).getD i 0 = (0 :: ends).getD i 0 := by
      cases i with
      | zero => rfl
      | succ j => simp only [List.getD_eq_getElem?_getD, List.getElem?_cons_succ]; rw [List.getElem?_append_left (by have := h.len; omega)]
    rw [e0]
    by_cases hl : i < xs.length
    · rw [List.getElem?_append_left hl] at hi
      rw [List.getElem?_append_left (by rw [h.len]; exact hl)] at he
      exact h.st s g1 i y e hi he
    · have : i = xs.length := by omega
      subst this
      simp at hi
      rw [← h.len] at he
      simp at he
      subst hi he
      rw [← h.len, ← h.last]
      exact g2
theorem chkN_len {n : By} (h : chkN n = 0) : n.length ≤ 254 := by
  unfold chkN at h
  split at h
  · cases h
  · omega
theorem PutX.q {p : Pk} {xs : List X} {ends : List Nat} {q : Qn} (h : PutX p xs ends) (hc : qnChk q = 0) (hl : p.w.s.length ≤ 65000) :
    (qnPut p q).2 = 0 ∧ PutX (qnPut p q).1 (xs ++ [.ofQ q]) (ends ++ [(qnPut p q).1.w.s.length]) ∧ (qnPut p q).1.w.s.length ≤ p.w.s.length + 259 := by
  have hn := chkN_len (mayR_ok hc).1
  have h0 := qnPut_room h.inv hc h.e (by rw [h.most]; omega)
  have hd := qnPut_did h.inv hc h0
  refine ⟨h0, h.snoc (x := .ofQ q) hd, ?_⟩
  have := hd.hi; omega
theorem rc_room {r : Rc} (ho : OkR r) (hc : rcChk r = 0) (hl : lightN r.data ≤ 2000) : r.name.length ≤ 254 ∧ 0 ≤ szD r.typ r.data ∧ szD r.typ r.data ≤ 2038 := by
  obtain ⟨hm, hcd⟩ := rcChk_ok hc
  obtain ⟨hc1, _⟩ := chkD_ck hcd
  obtain ⟨ht, hg⟩ := ckD_good ho.data hc1
  have hz : szD r.typ r.data = szW (whatOf r.typ) r.data := by unfold szD; rw [if_neg (by omega)]
  have := lightSz (whatOf_ok r.typ) hg
  refine ⟨chkN_len (mayR_ok hm).1, szD_nonneg ho.data hcd, by omega⟩
theorem PutX.r {p : Pk} {xs : List X} {ends : List Nat} {r : Rc} (h : PutX p xs ends) (ho : OkR r) (hc : rcChk r = 0) (hw : lightN r.data ≤ 2000) (hl : p.w.s.length ≤ 63000) :
    (rcPut p r).2 = 0 ∧ PutX (rcPut p r).1 (xs ++ [.ofR r]) (ends ++ [(rcPut p r).1.w.s.length]) ∧ (rcPut p r).1.w.s.length ≤ p.w.s.length + 2303 ∧ ((rcPut p r).1.w.s.length : Int) - p.w.s.length ≤ rcSize r := by
  obtain ⟨h1, h2, h3⟩ := rc_room ho hc hw
  have h0 := rcPut_room h.inv ho hc h.e (by rw [h.most]; omega) (by rw [h.most]; omega)
  have hd := rcPut_did h.inv ho hc (by rw [h.most]; omega) h0
  have hh := hd.hi
  refine ⟨h0, h.snoc (x := .ofR r) hd, by omega, ?_⟩
  rw [rcSize_ok hc]
  omega
theorem PutX.ext {p : Pk} {xs : List X} {ends : List Nat} (h : PutX p xs ends) : p.Ext p.w.s := by
  have := ext_self (p := p) h.begun []
  rwa [List.append_nil] at this
theorem PutX.short {p : Pk} {xs : List X} {ends : List Nat} (h : PutX p xs ends) : p.w.s.length ≤ 65535 := by
  have := h.inv.room
  have := h.most
  omega
theorem PutX.readQ {p : Pk} {xs : List X} {ends : List Nat} {q : Qn} {i e : Nat} (h : PutX p xs ends) (hx : xs[i]? = some (.ofQ q)) (he : ends[i]? = some e) (hc : qnChk q = 0) : qnRead p.w.s ((0 :: ends).getD i 0 : Nat) = (q, (e : Int), 0) := by
  have hs := h.short
  exact qnRead_of (by omega) hc (h.st _ h.ext i _ e hx he) (h.le e (List.mem_of_getElem? he))
theorem PutX.readR {p : Pk} {xs : List X} {ends : List Nat} {r : Rc} {i e : Nat} (h : PutX p xs ends) (hx : xs[i]? = some (.ofR r)) (he : ends[i]? = some e) (ho : OkR r) (hc : rcChk r = 0) : rcRead p.w.s ((0 :: ends).getD i 0 : Nat) = (r, (e : Int), 0) := by
  have hs := h.short
  exact rcRead_of (by omega) ho hc (h.st _ h.ext i _ e hx he) (h.le e (List.mem_of_getElem? he))
end Np
