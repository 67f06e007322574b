import Derived.Test.YtkpinncakbnikaaK2
import Derived.Test.YtkpinncakbnikaaRows
import Derived.ProofKit
import Derived.OpenShut
import Derived.JoinedCond
import Derived.Below
import Derived.ChangeSame
import Derived.Carry
import Derived.Deep.Slices
import Derived.Test.YtkpinncakbnikaaS1
import Derived.Test.YtkpinncakbnikaaNp2
import Derived.Test.YtkpinncakbnikaaS2
namespace Go.Proofs.Ytkpinncakbnikaa
open Go Np Go.Proofs
set_option linter.all false
set_option maxRecDepth 20000
section
variable {w0 w : World} {F : Fp} {L L' : List (Nat × Ent)} {K : Value → World → Prop} {n m : Nat} {d a b : Dat} {v u : Value} {s : By} {t : Int}
theorem law_Unlike (ha : OkD a) (hb : OkD b) (h : At w0 F w [(0, sl v n (strs a.texts) 1), (1, sl u m (strs b.texts) 1)]) :
    Gv Try.prog F_nameplatelaw09_RdataUnlike #[.int .i64 t, daV a v, daV b u] w fun x w' => x = .bool true ∧ At w0 F w' [] := by
  have hsl : SlG v n := h.slG inferInstance
  have hsl2 : SlG u m := h.slG inferInstance
  have hna : n ≤ 1099511627776 := by have := h.slLen (inferInstance : HasS _ v n (strs a.texts) 1); have := ha.texts; simp [strs] at *; omega
  refine ok_nameplatelaw09_RdataUnlike ?_
  unfold T_nameplatelaw09_RdataUnlike
  repeat' (first | refine Step.out ?_ | refine And.intro (fun h => ?_) (fun h => ?_) | intro _ | refine GW.i64 (by omega) ?_ | refine GW.u32 (by omega) ?_ | refine GW.u64 (by omega) ?_ | refine GW.u8 (by omega) ?_ | refine GW.u16 (by omega) ?_ | refine And.intro rfl ?_ | refine And.intro (by assumption) ?_ | refine And.intro (by omega) ?_ | refine And.intro (by simp only [List.length_append, List.length_replicate, List.length_drop, List.length_take, List.length_cons, List.length_nil, u8s_len, be_length]; omega) ?_ | fail)
  rename_i ba w1 g1 bb w2 g2 w3 g3
  clear h g1 g2
  refine cutL (fun s w => ∃ q : Bool, s = [.int .i64 t, ptr ba, ptr bb, .bool q] ∧ At w0 F w [(bb, cells (daC b u) Y_api_Data), (ba, cells (daC a v) Y_api_Data), (0, sl v n (strs a.texts) 1), (1, sl u m (strs b.texts) 1)]) ?_ ?_
  · repeat' (first | refine Step.out ?_ | refine And.intro (fun h => ?_) (fun h => ?_) | intro _ | refine GW.i64 (by omega) ?_ | refine GW.u32 (by omega) ?_ | refine GW.u64 (by omega) ?_ | refine GW.u8 (by omega) ?_ | refine GW.u16 (by omega) ?_ | refine And.intro rfl ?_ | refine And.intro (by assumption) ?_ | refine And.intro (by omega) ?_ | refine And.intro (by simp only [List.length_append, List.length_replicate, List.length_drop, List.length_take, List.length_cons, List.length_nil, u8s_len, be_length]; omega) ?_ | fail)
    all_goals exact ⟨_, rfl, ‹_›⟩
  rintro ρ w ⟨q1, hs, hA⟩
  clear g3
  simp only [pick, List.cons.injEq, and_true] at hs
  obtain ⟨h0, h1, h2, h3⟩ := hs
  simp only [h0, h1, h2, h3]
  repeat' (first | refine Step.out ?_ | refine And.intro (fun h => ?_) (fun h => ?_) | intro _ | refine GW.i64 (by omega) ?_ | refine GW.u32 (by omega) ?_ | refine GW.u64 (by omega) ?_ | refine GW.u8 (by omega) ?_ | refine GW.u16 (by omega) ?_ | refine And.intro rfl ?_ | refine And.intro (by assumption) ?_ | refine And.intro (by omega) ?_ | refine And.intro (by simp only [List.length_append, List.length_replicate, List.length_drop, List.length_take, List.length_cons, List.length_nil, u8s_len, be_length]; omega) ?_ | fail)
  · exact ⟨trivial, At.emp hA⟩
  · exact ⟨trivial, At.emp ‹_›⟩
  · exact ⟨trivial, At.emp ‹_›⟩
  · rename_i q _ _
    have hq := ‹_ = true ↔ a = b›
    have hu := unlike ha hb (Decidable.not_not.1 ‹¬ ¬ (putD pk0 t a).2 = 0›) (Decidable.not_not.1 ‹¬ ¬ (putD pk0 t b).2 = 0›)
    refine ⟨?_, At.emp ‹_›⟩
    have e : (dec ((putD pk0 t a).1.w.s = (putD pk0 t b).1.w.s)) = _ := Bool.eq_iff_iff.2 (dec_iff.trans (hu.trans hq.symm))
    rw [e, dec_eq]; simp
theorem law_Back {y : By} (hd : OkD d) (hy : y.length ≤ 1048576) (h : At w0 F w [(0, sl v n (strs d.texts) 1)]) :
    Gv Try.prog F_nameplatelaw09_RdataBack #[.int .i64 t, daV d v, str y] w fun x w' => x = .bool true ∧ At w0 F w' [] := by
  have hsl : SlG v n := h.slG inferInstance
  have hna : n ≤ 1099511627776 := by have := h.slLen (inferInstance : HasS _ v n (strs d.texts) 1); have := hd.texts; simp [strs] at *; omega
  refine ok_nameplatelaw09_RdataBack ?_
  unfold T_nameplatelaw09_RdataBack
  repeat' (first | refine Step.out ?_ | refine And.intro (fun h => ?_) (fun h => ?_) | intro _ | refine GW.i64 (by omega) ?_ | refine GW.u32 (by omega) ?_ | refine GW.u64 (by omega) ?_ | refine GW.u8 (by omega) ?_ | refine GW.u16 (by omega) ?_ | refine And.intro rfl ?_ | refine And.intro (by assumption) ?_ | refine And.intro (by omega) ?_ | refine And.intro (by simp only [List.length_append, List.length_replicate, List.length_drop, List.length_take, List.length_cons, List.length_nil, u8s_len, be_length]; omega) ?_ | fail)
  rename_i bd w1 g1 w2 g2
  clear h g1
  refine cutL (fun s w => ∃ q : Bool, (q = false → lightN d ≤ 2000 ∧ y.length ≤ 400 ∧ chkD t d = 0) ∧ s = [.int .i64 t, str y, ptr bd, .bool q] ∧ At w0 F w [(bd, cells (daC d v) Y_api_Data), (0, sl v n (strs d.texts) 1)]) ?_ ?_
  · repeat' (first | refine Step.out ?_ | refine And.intro (fun h => ?_) (fun h => ?_) | intro _ | refine GW.i64 (by omega) ?_ | refine GW.u32 (by omega) ?_ | refine GW.u64 (by omega) ?_ | refine GW.u8 (by omega) ?_ | refine GW.u16 (by omega) ?_ | refine And.intro rfl ?_ | refine And.intro (by assumption) ?_ | refine And.intro (by omega) ?_ | refine And.intro (by simp only [List.length_append, List.length_replicate, List.length_drop, List.length_take, List.length_cons, List.length_nil, u8s_len, be_length]; omega) ?_ | fail)
    · exact ⟨_, (fun h => by cases h), rfl, ‹_›⟩
    · exact ⟨_, (fun h => by cases h), rfl, ‹_›⟩
    · refine ⟨_, (fun h => ?_), rfl, ‹_›⟩
      rw [dec_eq] at h
      refine ⟨Decidable.not_not.1 ‹¬ ¬ lightN d ≤ 2000›, by omega, ?_⟩
      simpa using h
  rintro ρ w ⟨q1, hq1, hs, hA⟩
  clear g2
  simp only [pick, List.cons.injEq, and_true] at hs
  obtain ⟨h0, h1, h2, h3⟩ := hs
  simp only [h0, h1, h2, h3]
  cases q1 with
  | true =>
    repeat' (first | refine Step.out ?_ | refine And.intro (fun h => ?_) (fun h => ?_) | intro _ | refine GW.i64 (by omega) ?_ | refine GW.u32 (by omega) ?_ | refine GW.u64 (by omega) ?_ | refine GW.u8 (by omega) ?_ | refine GW.u16 (by omega) ?_ | refine And.intro rfl ?_ | refine And.intro (by assumption) ?_ | refine And.intro (by omega) ?_ | refine And.intro (by simp only [List.length_append, List.length_replicate, List.length_drop, List.length_take, List.length_cons, List.length_nil, u8s_len, be_length]; omega) ?_ | fail)
    exact ⟨trivial, At.emp hA⟩
  | false =>
  obtain ⟨hl, hya, hc⟩ := hq1 rfl
  obtain ⟨b1, b2, b3, b4, b5⟩ := back_law (n := y) hd hc hl
  generalize hp2 : putD (pk0.name y).1 t d = p2 at b1 b2 b3 b4 b5
  obtain ⟨c1, c2, c3, c4, c5⟩ := b5
  rw [back_len] at c3 c5
  have hsl3 : (p2.1.w.s ++ [0]).length ≤ 1048000 := by simp; omega
  repeat' (first | refine Step.out ?_ | refine And.intro (fun h => ?_) (fun h => ?_) | intro _ | refine GW.i64 (by omega) ?_ | refine GW.u32 (by omega) ?_ | refine GW.u64 (by omega) ?_ | refine GW.u8 (by omega) ?_ | refine GW.u16 (by omega) ?_ | refine And.intro rfl ?_ | refine And.intro (by assumption) ?_ | refine And.intro (by omega) ?_ | refine And.intro (by simp only [List.length_append, List.length_replicate, List.length_drop, List.length_take, List.length_cons, List.length_nil, u8s_len, be_length]; omega) ?_ | fail)
  all_goals rw [hp2] at *
  · exact absurd b1 (by assumption)
  repeat' (first | refine Step.out ?_ | refine And.intro (fun h => ?_) (fun h => ?_) | intro _ | refine GW.i64 (by omega) ?_ | refine GW.u32 (by omega) ?_ | refine GW.u64 (by omega) ?_ | refine GW.u8 (by omega) ?_ | refine GW.u16 (by omega) ?_ | refine And.intro rfl ?_ | refine And.intro (by assumption) ?_ | refine And.intro (by omega) ?_ | refine And.intro (by simp only [List.length_append, List.length_replicate, List.length_drop, List.length_take, List.length_cons, List.length_nil, u8s_len, be_length]; omega) ?_ | fail)
  · omega
  have htl : (rdD (p2.1.w.s ++ [0]) (pk0.name y).1.w.s.length p2.1.w.s.length t).1.texts.length ≤ 1099511627776 := by rw [c1]; have := hd.texts; simp only; omega
  refine cutL (fun s w => s = [.int .i64 t, .int .i64 (pk0.name y).1.w.s.length, .int .i64 p2.1.w.s.length, str (p2.1.w.s ++ [0]), .bool false] ∧ At w0 F w []) ?_ ?_
  · repeat' (first | refine Step.out ?_ | refine And.intro (fun h => ?_) (fun h => ?_) | intro _ | refine GW.i64 (by omega) ?_ | refine GW.u32 (by omega) ?_ | refine GW.u64 (by omega) ?_ | refine GW.u8 (by omega) ?_ | refine GW.u16 (by omega) ?_ | refine And.intro rfl ?_ | refine And.intro (by assumption) ?_ | refine And.intro (by omega) ?_ | refine And.intro (by simp only [List.length_append, List.length_replicate, List.length_drop, List.length_take, List.length_cons, List.length_nil, u8s_len, be_length]; omega) ?_ | fail)
    · exact absurd (congrArg Prod.snd c1) (by assumption)
    · have hq := ‹_ = true ↔ (rdD _ _ _ _).1 = d›
      have hqt := hq.2 (congrArg Prod.fst c1)
      exact ⟨by rw [hqt]; rfl, At.emp ‹_›⟩
  rintro ρ w ⟨hs, hA⟩
  simp only [pick, List.cons.injEq, and_true] at hs
  obtain ⟨h0, h1, h2, h3, h4⟩ := hs
  simp only [h0, h1, h2, h3, h4]
  repeat' (first | refine Step.out ?_ | refine And.intro (fun h => ?_) (fun h => ?_) | intro _ | refine GW.i64 (by omega) ?_ | refine GW.u32 (by omega) ?_ | refine GW.u64 (by omega) ?_ | refine GW.u8 (by omega) ?_ | refine GW.u16 (by omega) ?_ | refine And.intro rfl ?_ | refine And.intro (by assumption) ?_ | refine And.intro (by omega) ?_ | refine And.intro (by simp only [List.length_append, List.length_replicate, List.length_drop, List.length_take, List.length_cons, List.length_nil, u8s_len, be_length]; omega) ?_ | fail)
  clear hA
  generalize hf : (rdD (p2.1.w.s ++ [0]) (pk0.name y).1.w.s.length ((p2.1.w.s.length : Int) + 1) t).2 = f
  refine cutL (fun s w => ∃ q : Bool, (q = true ↔ (whatOf t).raw = true) ∧ s = [.int .i64 t, .int .i64 (pk0.name y).1.w.s.length, .int .i64 p2.1.w.s.length, str (p2.1.w.s ++ [0]), .int .i64 f, .bool q] ∧ At w0 F w []) ?_ ?_
  · have hkr := known_raw (t := t)
    repeat' (first | refine Step.out ?_ | refine And.intro (fun h => ?_) (fun h => ?_) | intro _ | refine GW.i64 (by omega) ?_ | refine GW.u32 (by omega) ?_ | refine GW.u64 (by omega) ?_ | refine GW.u8 (by omega) ?_ | refine GW.u16 (by omega) ?_ | refine And.intro rfl ?_ | refine And.intro (by assumption) ?_ | refine And.intro (by omega) ?_ | refine And.intro (by simp only [List.length_append, List.length_replicate, List.length_drop, List.length_take, List.length_cons, List.length_nil, u8s_len, be_length]; omega) ?_ | fail)
    · exact ⟨true, ⟨fun _ => hkr.1 (.inl (by simpa using ‹¬ knownT t = true›)), fun _ => rfl⟩, rfl, At.emp ‹_›⟩
    · refine ⟨_, ?_, rfl, At.emp ‹_›⟩
      rw [dec_iff, ← hkr]
      have := Decidable.not_not.1 ‹¬ ¬ knownT t = true›
      simp [this]
  rintro ρ w ⟨q, hq, hs, hA⟩
  simp only [pick, List.cons.injEq, and_true] at hs
  obtain ⟨h0, h1, h2, h3, h4, h5⟩ := hs
  simp only [h0, h1, h2, h3, h4, h5]
  refine cutL (fun s w => s = [.int .i64 t, .int .i64 (pk0.name y).1.w.s.length, .int .i64 p2.1.w.s.length, str (p2.1.w.s ++ [0]), .int .i64 f, .bool q, .bool false] ∧ At w0 F w []) ?_ ?_
  · have hnr : ¬ q = true → (whatOf t).raw = false := fun h => by simpa using fun h2 => h (hq.2 h2)
    repeat' (first | refine Step.out ?_ | refine And.intro (fun h => ?_) (fun h => ?_) | intro _ | refine GW.i64 (by omega) ?_ | refine GW.u32 (by omega) ?_ | refine GW.u64 (by omega) ?_ | refine GW.u8 (by omega) ?_ | refine GW.u16 (by omega) ?_ | refine And.intro rfl ?_ | refine And.intro (by assumption) ?_ | refine And.intro (by omega) ?_ | refine And.intro (by simp only [List.length_append, List.length_replicate, List.length_drop, List.length_take, List.length_cons, List.length_nil, u8s_len, be_length]; omega) ?_ | fail)
    · have hf4 : f = 4 := by
        rw [← hf, c3 (hnr (by assumption)) (texts_16 (by assumption)) (Nat.le_refl _)]
      exact ⟨by rw [hf4, dec_eq]; rfl, At.emp ‹_›⟩
    · first | exact At.emp ‹_› | exact ⟨by rfl, At.emp ‹_›⟩
    · first | exact At.emp ‹_› | exact ⟨by rfl, At.emp ‹_›⟩
  rintro ρ w ⟨hs, hA⟩
  simp only [pick, List.cons.injEq, and_true] at hs
  obtain ⟨h0, h1, h2, h3, h4, h5, h6⟩ := hs
  simp only [h0, h1, h2, h3, h4, h5, h6]
  have hf0 : (whatOf t).raw = true → f = 0 := fun h => by rw [← hf]; exact c5 h (Nat.le_refl _) (by omega)
  repeat' (first | refine Step.out ?_ | refine And.intro (fun h => ?_) (fun h => ?_) | intro _ | refine GW.i64 (by omega) ?_ | refine GW.u32 (by omega) ?_ | refine GW.u64 (by omega) ?_ | refine GW.u8 (by omega) ?_ | refine GW.u16 (by omega) ?_ | refine And.intro rfl ?_ | refine And.intro (by assumption) ?_ | refine And.intro (by omega) ?_ | refine And.intro (by simp only [List.length_append, List.length_replicate, List.length_drop, List.length_take, List.length_cons, List.length_nil, u8s_len, be_length]; omega) ?_ | fail)
  · have hr : (whatOf t).raw = true := by
      cases hr : (whatOf t).raw with
      | true => rfl
      | false => have := c2 hr; omega
    exact ⟨by rw [hf0 hr, dec_eq]; rfl, At.emp ‹_›⟩
  · exact ⟨by rw [hf0 (hq.1 (by assumption)), dec_eq]; rfl, At.emp ‹_›⟩
  · exact ⟨trivial, At.emp ‹_›⟩
  · have hnr : (whatOf t).raw = false := by simpa using fun h2 => (show ¬ q = true by assumption) (hq.2 h2)
    have := c4 hnr (texts_16 (by assumption))
    exact ⟨by rw [dec_eq]; simp [this], At.emp ‹_›⟩
end
end Go.Proofs.Ytkpinncakbnikaa
namespace Go.Proofs.Ytkpinncakbnikaa
open Go Np Go.Proofs Go.ChangeShapes Go.WideShapes Go.ChangeAt Go.RowKit Go.Deep
set_option linter.all false
set_option maxRecDepth 20000
section
variable {H : Type} {enc : TypeId × Value → H} {P : Program}
/-- the row's last step, where of old memory nothing has turned -/
theorem post_of_below {f : Func} {s : ChangeSpec} {apart fresh handsOn again : Bool} {W W' : World} {args : Array Value} {v : Value} {ds gs : List (DataW H)} {before pa pv : List MemPlace}
    (hW : DataW.Whole enc P f.params.toList s.vars apart W args.toList ds gs before)
    (hres : ∀ (b : Nat) (sp : Nat → Bool) (hd : Bool), DataW.TrodAll enc P W' b sp hd f.resultTypes.toList (v.resultList f.resultTypes.size) (s.fn H (ds ++ gs)).results [])
    (hargs : ∀ sp : Nat → Bool, (∀ p ∈ before, sp p.block = true) → DataW.TrodAll enc P W' 0 sp true f.params.toList args.toList (s.fn H (ds ++ gs)).args pa)
    (hvars : ∀ sp : Nat → Bool, (∀ p ∈ before, sp p.block = true) → DataW.TrodVars enc P W' sp s.vars (s.fn H (ds ++ gs)).vars pv)
    (hps : before = pa ++ pv) (hb : Below W.heap.size W W')
    (hok : ∀ (j : Nat) (t : TypeId) (r : Value), f.resultTypes[j]? = some t → (v.resultList f.resultTypes.size)[j]? = some r → Value.okWide P W' .any 0 t r) :
    s.post enc P f apart fresh handsOn again W args v W' := by
  have hlt : ∀ p ∈ before, p.block < W.heap.size := fun p hp => hW.lt p hp
  have hold : ∀ p ∈ before, (fun b => decide (b < W.heap.size)) p.block = true := fun p hp => by simpa using hlt p hp
  refine ⟨ds, gs, before, [], pa, pv, hW, hres _ _ _, hargs _ hold, hvars _ hold, World.keptBut_mono (fun p hp => ⟨hp, ?_⟩) (hb.frame (· ∈ before)), fun _ => ?_⟩
  · rw [hps, List.mem_append] at hp
    exact Or.inr hp
  · obtain ⟨_, _, _, _, _, hz, hn⟩ := hW
    refine ⟨hok, _, _, ([] ++ pa) ++ pv, ⟨[] ++ pa, pv, trodAll_append (hargs _ (fun _ _ => rfl)) (hres _ _ _), hvars _ (fun _ _ => rfl), rfl, ?_, ?_⟩, ?_⟩
    · intro b off hp
      have hin : MemPlace.cell b off ∈ before := by rw [hps]; simpa using hp
      rw [hb.frozen (hlt _ hin)]
      exact hz b off hin
    · intro ha
      have := hn ha
      rw [hps] at this
      simpa using this
    · intro p hp _
      rw [hps]
      simpa using hp
end
/-! ## arguments, opened -/
/-- a slice that is read stands in a world -/
def SlOk (w : World) (v : Value) (n : Nat) (xs : List Value) (size : Nat) : Prop := ∃ s, (sl v n xs size 0).ok [] s w
theorem At.addS {w : World} {sp : List Nat} {L : List (Nat × Ent)} {v : Value} {n size : Nat} {xs : List Value} (k : Nat) (hA : At w ⟨[], sp⟩ w L) (h : SlOk w v n xs size) : ∃ sp', At w ⟨[], sp'⟩ w ((k, sl v n xs size) :: L) := by
  obtain ⟨s, hs⟩ := h
  obtain ⟨fp, sp1, h1, h2, h3, h4, h5, h6⟩ := hA.h
  have hf : fp = [] := by
    cases fp with
    | nil => rfl
    | cons b fp =>
      have hb := h4 b (by simp)
      have := h1.lt b (.inl (by simp))
      simp at hb; omega
  subst hf
  refine ⟨s ++ sp1, ⟨[], s ++ sp1, ⟨[], [], s, sp1, rfl, rfl, hs, h1⟩, List.nodup_nil, (fun _ h => by cases h), (fun _ h => by cases h), fun b hb => .inl hb, h6⟩⟩
theorem At.init' (w : World) : At w ⟨[], []⟩ w [] := ⟨[], [], ⟨rfl, rfl⟩, List.nodup_nil, (fun b h => by cases h), (fun b h => by cases h), (fun b h => by cases h), Ext.refl _ _⟩
theorem At.below {w w' : World} {sp : List Nat} {L : List (Nat × Ent)} (h : At w ⟨[], sp⟩ w' L) : Below w.heap.size w w' := by
  have e := h.ext
  exact ⟨e.os, e.tape, e.out, e.size, fun k hk => e.keep k hk (by simp)⟩
section
variable {H : Type} {enc : TypeId × Value → H} {w : World} {base : Nat} {sp : Nat → Bool} {held : Bool} {fuel : Nat} {t : TypeId} {cs : List Value} {x : DataW H × List MemPlace}
abbrev UB {H : Type} (x : DataW H × List MemPlace) : Nat := Rows.uptoBulk x.1
theorem part_le {d : DataW H} {l : List (DataW H)} (h : d ∈ l) : Rows.uptoBulk d ≤ Rows.uptoBulkAll l := by
  induction l with
  | nil => cases h
  | cons x r ih =>
    simp only [Rows.uptoBulkAll]
    cases List.mem_cons.1 h with
    | inl e => subst e; omega
    | inr e => have := ih e; omega
theorem bulkAll_sum (l : List (DataW H)) : Rows.uptoBulkAll l = (l.map Rows.uptoBulk).sum := by
  induction l with
  | nil => simp [Rows.uptoBulkAll]
  | cons x l ih => simp [Rows.uptoBulkAll, ih]
theorem opn_str [h : StrT Try.prog t] (hx : DataW.trod enc Try.prog w base sp held fuel t cs = some x) : ∃ l : By, cs = [str l] ∧ l.length + 1 ≤ UB x := by
  obtain ⟨s, rfl, rfl, _⟩ := DataW.trod_string h.h hx
  obtain ⟨d⟩ := s
  exact ⟨d.toList, by simp [str], by simp [UB, Rows.uptoBulk]⟩
theorem opn_bool [h : BoolT Try.prog t] (hx : DataW.trod enc Try.prog w base sp held fuel t cs = some x) : ∃ b : Bool, cs = [.bool b] := by
  obtain ⟨b, rfl, _⟩ := DataW.trod_bool h.h hx
  exact ⟨b, rfl⟩
theorem opn_int {k : IntKind} [h : IntT Try.prog t k] (hx : DataW.trod enc Try.prog w base sp held fuel t cs = some x) : ∃ n : Int, cs = [.int k n] ∧ k.min ≤ n ∧ n ≤ k.max := by
  obtain ⟨n, rfl, _, hw⟩ := DataW.trod_int h.h hx
  simp only [Lit.wf, Bool.and_eq_true, decide_eq_true_eq] at hw
  exact ⟨n, rfl, hw⟩
theorem opn_nat {k : IntKind} [h : IntT Try.prog t k] (hk : k.min = 0) (hx : DataW.trod enc Try.prog w base sp held fuel t cs = some x) : ∃ n : Nat, cs = [.int k n] ∧ (n : Int) ≤ k.max := by
  obtain ⟨n, rfl, h1, h2⟩ := opn_int hx
  obtain ⟨m, rfl⟩ : ∃ m : Nat, n = m := ⟨n.toNat, by omega⟩
  exact ⟨m, rfl, h2⟩
/-- a struct's field: its type, its place, how many cells -/
def fTy (P : Program) (t i : Nat) : Option (Nat × Nat × Nat) :=
  match P.underlying t with
  | some (.struct fs) => (fs[i]?).map fun f => (f.type, f.offset, P.cellsOf f.type)
  | some (.array n e) => if i < n then some (e, i * P.cellsOf e, P.cellsOf e) else none
  | _ => none
theorem opn_field {i ft off n : Nat} (hf : fTy Try.prog t i = some (ft, off, n)) (hx : DataW.trod enc Try.prog w base sp held fuel t cs = some x) :
    cs.length = Try.prog.cellsOf t ∧ ∃ m y, DataW.trod enc Try.prog w base sp held m ft ((cs.drop off).take n) = some y ∧ UB y + 1 ≤ UB x := by
  unfold fTy at hf
  split at hf
  · rename_i fs hu
    obtain ⟨xs, m, _, rfl, hl, hlen, hall⟩ := DataW.trod_struct hu hx
    cases hfi : fs[i]? with
    | none => rw [hfi] at hf; cases hf
    | some f =>
      rw [hfi] at hf
      simp only [Option.map_some, Option.some.injEq, Prod.mk.injEq] at hf
      obtain ⟨rfl, rfl, rfl⟩ := hf
      have h1 := hall i f hfi
      have hi : i < xs.length := by rw [hlen]; exact (Array.getElem?_eq_some_iff.1 hfi).1
      rw [List.getElem?_eq_getElem hi] at h1
      refine ⟨hl, m, _, h1, ?_⟩
      have := part_le (d := (xs[i]).1) (l := xs.map (·.1)) (List.mem_map_of_mem (List.getElem_mem hi))
      simp only [UB, Rows.uptoBulk]
      omega
  · rename_i k e hu
    split at hf
    · rename_i hik
      simp only [Option.some.injEq, Prod.mk.injEq] at hf
      obtain ⟨rfl, rfl, rfl⟩ := hf
      obtain ⟨xs, m, _, rfl, hl, hlen, hall⟩ := DataW.trod_array hu hx
      have h1 := hall i hik
      have hi : i < xs.length := by omega
      rw [List.getElem?_eq_getElem hi] at h1
      refine ⟨hl, m, _, h1, ?_⟩
      have := part_le (d := (xs[i]).1) (l := xs.map (·.1)) (List.mem_map_of_mem (List.getElem_mem hi))
      simp only [UB, Rows.uptoBulk]
      omega
    · cases hf
  · cases hf
theorem add_add (a : Addr) (i j : Nat) : (a.add i).add j = a.add (i + j) := by
  unfold Addr.add
  by_cases hi : i = 0 <;> by_cases hj : j = 0 <;> simp [hi, hj, Nat.add_assoc]
/-- elements that can be opened -/
def Opn (e : TypeId) {α : Type} (f : α → List Value) (Q : World → α → Prop) (β : α → Nat) : Prop :=
  ∀ {H : Type} {enc : TypeId × Value → H} {w : World} {base : Nat} {sp : Nat → Bool} {held : Bool} {fuel : Nat} {cs : List Value} {x : DataW H × List MemPlace},
    DataW.trod enc Try.prog w base sp held fuel e cs = some x → ∃ a, cs = f a ∧ Q w a ∧ β a ≤ UB x
theorem opn_rows {e size : Nat} {α : Type} {f : α → List Value} {Q : World → α → Prop} {β : α → Nat} (ht : Try.prog.underlying t = some (.slice e)) (hz : Try.prog.cellsOf e = size) (hp : 0 < size) (hf : RowF f size) (ho : Opn e f Q β)
    (hx : DataW.trod enc Try.prog w base sp held fuel t cs = some x) : ∃ v, ∃ l : List α, cs = [v] ∧ SlOk w v l.length (rows f l) size ∧ (∀ a ∈ l, Q w a) ∧ (l.map β).sum + 1 ≤ UB x ∧ l.length + 1 ≤ UB x := by
  subst hz
  rcases open_slice ht hx with ⟨rfl, rfl⟩ | ⟨a, len, cap, m, n, D, Pl, rfl, hb, hl, hm, hmm, rfl, hall⟩
  · exact ⟨_, [], rfl, ⟨[], rfl, by simp [rows], .inl ⟨.inl rfl, rfl, rfl⟩⟩, (fun _ h => by cases h), by simp [UB, Rows.uptoBulk], by simp [UB, Rows.uptoBulk]⟩
  · have hlm : len ≤ m := by rw [hmm]; split <;> omega
    have key : ∀ k, k ≤ len → ∃ l : List α, l.length = k ∧ (∀ a ∈ l, Q w a) ∧ (l.map β).sum ≤ Rows.uptoBulkAll ((List.range k).map D) ∧ ∀ i (h : i < l.length), ∃ cs', w.cells? base (a.add (i * Try.prog.cellsOf e)) (Try.prog.cellsOf e) = some cs' ∧ cs' = f l[i] := by
      intro k
      induction k with
      | zero => intro _; exact ⟨[], rfl, (fun _ h => by cases h), by simp, fun i h => by simp at h⟩
      | succ k ih =>
        intro hk
        obtain ⟨l, g1, g2, g3, g4⟩ := ih (by omega)
        obtain ⟨cs', e1, e2⟩ := hall k (by omega)
        obtain ⟨z, e3, e4, e5⟩ := ho e2
        refine ⟨l ++ [z], by simp [g1], fun y hy => ?_, ?_, fun i h => ?_⟩
        · rcases List.mem_append.1 hy with hy | hy
          · exact g2 y hy
          · simp at hy; subst hy; exact e4
        · rw [List.range_succ, List.map_append, List.map_append, List.sum_append, bulkAll_sum, List.map_append, List.sum_append, ← bulkAll_sum]
          simp only [List.map_cons, List.map_nil, List.sum_cons, List.sum_nil, Nat.add_zero]
          simp only [UB] at e5
          omega
        · by_cases hi : i < l.length
          · rw [List.getElem_append_left hi]; exact g4 i hi
          · have : i = k := by simp at h; omega
            subst this
            refine ⟨cs', e1, ?_⟩
            rw [e3]
            simp [g1]
    obtain ⟨l, g1, g2, g3, g4⟩ := key len (Nat.le_refl _)
    have hrl := rows_len hf l
    have hcell : ∀ i (h : i < l.length) j, j < Try.prog.cellsOf e → w.cell? (a.add (i * Try.prog.cellsOf e + j)) = (f l[i])[j]? := fun i h j hj => by
      obtain ⟨cs', e1, e2⟩ := g4 i h
      obtain ⟨_, _, e3⟩ := World.cells?_some e1
      rw [← e2, ← e3 j hj]
      rw [add_add]
    have hrow : ∀ j, j < (rows f l).length → w.cell? (a.add j) = (rows f l)[j]? := fun j hj => by
      rw [hrl] at hj
      have hd : j / Try.prog.cellsOf e < l.length := Nat.div_lt_of_lt_mul (by rw [Nat.mul_comm]; exact hj)
      have hmod := Nat.mod_lt j hp
      have hdm : j / Try.prog.cellsOf e * Try.prog.cellsOf e + j % Try.prog.cellsOf e = j := by rw [Nat.mul_comm]; exact Nat.div_add_mod j _
      have h1 := hcell _ hd _ hmod
      rw [hdm] at h1
      haveI : Inhabited α := ⟨l[j / Try.prog.cellsOf e]⟩
      have h2 := rows_get hf l _ _ hd hmod
      rw [hdm] at h2
      rw [h1, h2]
      simp [List.getD_eq_getElem?_getD, List.getElem?_eq_getElem hd]
    refine ⟨.slice (some a) len cap, l, rfl, ?_, g2, ?_, ?_⟩
    · rw [g1]
      by_cases h0 : len = 0
      · subst h0
        have : l = [] := List.length_eq_zero_iff.1 g1
        subst this
        exact ⟨[], rfl, by simp [rows], .inl ⟨.inr ⟨a, cap, rfl⟩, rfl, rfl⟩⟩
      · have h2 := hrow 0 (by rw [hrl, g1]; exact Nat.mul_pos (by omega) hp)
        have hpos : 0 < (rows f l).length := by rw [hrl, g1]; exact Nat.mul_pos (by omega) hp
        rw [List.getElem?_eq_getElem hpos] at h2
        obtain ⟨b, o, s⟩ := a
        unfold World.cell? at h2
        have hs : s = none := by
          cases s with
          | none => rfl
          | some s =>
            simp only [Addr.add] at h2
            split at h2
            · simp at h2
            · cases h2
        subst hs
        simp only [add_off] at h2
        cases hh : w.heap[b]? with
        | none => rw [hh] at h2; cases h2
        | some ob =>
          cases ob with
          | cells cur T fz =>
            refine ⟨[b], rfl, by rw [hrl, g1], .inr ⟨b, o, cap, cur, T, fz, rfl, hl, rfl, hh, fun j hj => ?_⟩⟩
            have := hrow j hj
            rw [add_off] at this
            unfold World.cell? at this
            rw [hh] at this
            simpa using this
          | _ => rw [hh] at h2; cases h2
    · simp only [UB, Rows.uptoBulk]; omega
    · have : len ≤ Rows.uptoBulkAll ((List.range len).map D) := by
        have : ∀ l : List (DataW H), l.length ≤ Rows.uptoBulkAll l := by
          intro l
          induction l with
          | nil => simp
          | cons y l ih =>
            have h1 : 1 ≤ Rows.uptoBulk y := by
              cases y with
              | lit q => cases q <;> simp [Rows.uptoBulk]
              | _ => simp [Rows.uptoBulk]
            simp only [Rows.uptoBulkAll, List.length_cons]; omega
        have := this ((List.range len).map D)
        simpa using this
      rw [g1]
      simp only [UB, Rows.uptoBulk]; omega
end
end Go.Proofs.Ytkpinncakbnikaa
namespace Go.Proofs.Ytkpinncakbnikaa
open Go Np Go.Proofs Go.ChangeShapes Go.WideShapes Go.ChangeAt Go.RowKit Go.Deep
set_option linter.all false
set_option maxRecDepth 20000
noncomputable def FT (t i : Nat) : Nat := ((fTy Try.prog t i).map (·.1)).getD 0
def dMax (d : Dat) : Nat := max d.name.length (max d.mail.length (max d.raw.length (max d.texts.length (d.texts.map List.length).sum)))
structure OkN (d : Dat) : Prop where
  addr : OkA d.addr
  nums : ∀ i, d.num i ≤ 4294967295
theorem le_sum {α : Type} (f : α → Nat) : ∀ {l : List α} {x : α}, x ∈ l → f x ≤ (l.map f).sum := by
  intro l
  induction l with
  | nil => intro x h; cases h
  | cons y l ih =>
    intro x h
    simp only [List.map_cons, List.sum_cons]
    rcases List.mem_cons.1 h with rfl | h
    · omega
    · have := ih h; omega
theorem okD_of {d : Dat} (h : OkN d) (hb : dMax d ≤ 1048576) : OkD d := by
  unfold dMax at hb
  exact ⟨h.addr, by omega, by omega, h.nums, by omega, fun x hx => by have := le_sum List.length hx; omega, by omega⟩
instance : RowF (fun s : By => [str s]) 1 := ⟨fun _ => rfl⟩
instance : RowF (fun p : Dat × Value => daC p.1 p.2) 12 := ⟨fun _ => rfl⟩
theorem rows_strs (l : List By) : rows (fun s : By => [str s]) l = strs l := by
  induction l with
  | nil => rfl
  | cons x l ih => rw [show rows (fun s : By => [str s]) (x :: l) = [str x] ++ rows (fun s : By => [str s]) l from rfl, ih]; rfl
theorem opn_strE {e : Nat} [h : StrT Try.prog e] : Opn e (fun s : By => [str s]) (fun _ _ => True) List.length := fun hx => by
  obtain ⟨l, h1, h2⟩ := opn_str hx
  exact ⟨l, h1, trivial, by omega⟩
section
variable {H : Type} {enc : TypeId × Value → H} {w : World} {base : Nat} {sp : Nat → Bool} {held : Bool} {fuel : Nat} {t : TypeId} {cs : List Value} {x : DataW H × List MemPlace}
theorem opn_strs {e : Nat} (ht : Try.prog.underlying t = some (.slice e)) (hs : Try.prog.underlying e = some .string) (hz : Try.prog.cellsOf e = 1) (hx : DataW.trod enc Try.prog w base sp held fuel t cs = some x) :
    ∃ v, ∃ l : List By, cs = [v] ∧ SlOk w v l.length (strs l) 1 ∧ l.length + 1 ≤ UB x ∧ (l.map List.length).sum + 1 ≤ UB x := by
  haveI : StrT Try.prog e := ⟨hs⟩
  obtain ⟨v, l, h1, h2, _, h4, h5⟩ := opn_rows ht hz (by decide) inferInstance opn_strE hx
  rw [rows_strs] at h2
  exact ⟨v, l, h1, h2, h5, h4⟩
theorem list12 {α : Type} {l : List α} (h : l.length = 12) : ∃ a0 a1 a2 a3 a4 a5 a6 a7 a8 a9 a10 a11, l = [a0, a1, a2, a3, a4, a5, a6, a7, a8, a9, a10, a11] := by
  match l, h with
  | [a0, a1, a2, a3, a4, a5, a6, a7, a8, a9, a10, a11], _ => exact ⟨_, _, _, _, _, _, _, _, _, _, _, _, rfl⟩
theorem opn_data : Opn Y_api_Data (fun p : Dat × Value => daC p.1 p.2) (fun w p => SlOk w p.2 p.1.texts.length (strs p.1.texts) 1 ∧ OkN p.1) (fun p => dMax p.1) := by
  intro H enc w base sp held fuel cs x hx
  obtain ⟨hl, m0, y0, f0, b0⟩ := opn_field (i := 0) (ft := FT Y_api_Data 0) (off := 0) (n := 3) (by kernel_rfl) hx
  obtain ⟨_, m1, y1, f1, b1⟩ := opn_field (i := 1) (ft := FT Y_api_Data 1) (off := 3) (n := 1) (by kernel_rfl) hx
  obtain ⟨_, m2, y2, f2, b2⟩ := opn_field (i := 2) (ft := FT Y_api_Data 2) (off := 4) (n := 1) (by kernel_rfl) hx
  obtain ⟨_, m3, y3, f3, b3⟩ := opn_field (i := 3) (ft := FT Y_api_Data 3) (off := 5) (n := 5) (by kernel_rfl) hx
  obtain ⟨_, m4, y4, f4, b4⟩ := opn_field (i := 4) (ft := FT Y_api_Data 4) (off := 10) (n := 1) (by kernel_rfl) hx
  obtain ⟨_, m5, y5, f5, b5⟩ := opn_field (i := 5) (ft := FT Y_api_Data 5) (off := 11) (n := 1) (by kernel_rfl) hx
  obtain ⟨c0, c1, c2, c3, c4, c5, c6, c7, c8, c9, c10, c11, rfl⟩ := list12 (hl.trans (show Try.prog.cellsOf Y_api_Data = 12 by kernel_rfl))
  obtain ⟨_, n0, z0, g0, _⟩ := opn_field (i := 0) (ft := FT (FT Y_api_Data 0) 0) (off := 0) (n := 1) (by kernel_rfl) f0
  obtain ⟨_, n1, z1, g1, _⟩ := opn_field (i := 1) (ft := FT (FT Y_api_Data 0) 1) (off := 1) (n := 1) (by kernel_rfl) f0
  obtain ⟨_, n2, z2, g2, _⟩ := opn_field (i := 2) (ft := FT (FT Y_api_Data 0) 2) (off := 2) (n := 1) (by kernel_rfl) f0
  obtain ⟨_, k0, q0, r0, _⟩ := opn_field (i := 0) (ft := FT (FT Y_api_Data 3) 0) (off := 0) (n := 1) (by kernel_rfl) f3
  obtain ⟨_, k1, q1, r1, _⟩ := opn_field (i := 1) (ft := FT (FT Y_api_Data 3) 1) (off := 1) (n := 1) (by kernel_rfl) f3
  obtain ⟨_, k2, q2, r2, _⟩ := opn_field (i := 2) (ft := FT (FT Y_api_Data 3) 2) (off := 2) (n := 1) (by kernel_rfl) f3
  obtain ⟨_, k3, q3, r3, _⟩ := opn_field (i := 3) (ft := FT (FT Y_api_Data 3) 3) (off := 3) (n := 1) (by kernel_rfl) f3
  obtain ⟨_, k4, q4, r4, _⟩ := opn_field (i := 4) (ft := FT (FT Y_api_Data 3) 4) (off := 4) (n := 1) (by kernel_rfl) f3
  obtain ⟨six, e0⟩ := opn_bool (h := ⟨by kernel_rfl⟩) g0
  obtain ⟨hi, e1, u1⟩ := opn_nat (k := .u64) (h := ⟨by kernel_rfl⟩) rfl g1
  obtain ⟨lo, e2, u2⟩ := opn_nat (k := .u64) (h := ⟨by kernel_rfl⟩) rfl g2
  obtain ⟨name, e3, u3⟩ := opn_str (h := ⟨by kernel_rfl⟩) f1
  obtain ⟨mail, e4, u4⟩ := opn_str (h := ⟨by kernel_rfl⟩) f2
  obtain ⟨x0, e5, u5⟩ := opn_nat (k := .u32) (h := ⟨by kernel_rfl⟩) rfl r0
  obtain ⟨x1, e6, u6⟩ := opn_nat (k := .u32) (h := ⟨by kernel_rfl⟩) rfl r1
  obtain ⟨x2, e7, u7⟩ := opn_nat (k := .u32) (h := ⟨by kernel_rfl⟩) rfl r2
  obtain ⟨x3, e8, u8⟩ := opn_nat (k := .u32) (h := ⟨by kernel_rfl⟩) rfl r3
  obtain ⟨x4, e9, u9⟩ := opn_nat (k := .u32) (h := ⟨by kernel_rfl⟩) rfl r4
  obtain ⟨v, texts, e10, u10, u11, u12⟩ := opn_strs (e := Y_string) (by kernel_rfl) (by kernel_rfl) (by kernel_rfl) f4
  obtain ⟨raw, e11, u13⟩ := opn_str (h := ⟨by kernel_rfl⟩) f5
  simp only [List.drop_succ_cons, List.drop_zero, List.take_succ_cons, List.take_zero, List.cons.injEq, and_true] at e0 e1 e2 e3 e4 e5 e6 e7 e8 e9 e10 e11
  subst e0 e1 e2 e3 e4 e5 e6 e7 e8 e9 e10 e11
  have m64 : IntKind.u64.max = 18446744073709551615 := rfl
  have m32 : IntKind.u32.max = 4294967295 := rfl
  refine ⟨(⟨⟨six, hi, lo⟩, name, mail, x0, x1, x2, x3, x4, texts, raw⟩, c10), rfl, ⟨u10, ⟨⟨by simp only; omega, by simp only; omega⟩, ?_⟩⟩, ?_⟩
  · exact num_cases (d := ⟨⟨six, hi, lo⟩, name, mail, x0, x1, x2, x3, x4, texts, raw⟩) (P := (· ≤ 4294967295)) (by simp only; omega) (by simp only; omega) (by simp only; omega) (by simp only; omega) (by simp only; omega) (by decide)
  · simp only [dMax]
    omega
/-- an argument's value is as its cells -/
theorem arg_cells {v : Value} {d : DataW H} {p : List MemPlace} (h : DataW.Trod enc Try.prog w base sp held t v d p) : ∃ fuel, DataW.trod enc Try.prog w base sp held fuel t v.cells.toList = some (d, p) := h
theorem arg_data {r : Reach} {b0 : Nat} {v : Value} {d : DataW H} {p : List MemPlace} (hv : Value.okWide Try.prog w r b0 Y_api_Data v) (h : DataW.Trod enc Try.prog w base sp held Y_api_Data v d p) (hb : Rows.uptoBulk d ≤ 1048576) :
    ∃ (a : Dat) (u : Value), v = daV a u ∧ SlOk w u a.texts.length (strs a.texts) 1 ∧ OkD a := by
  obtain ⟨fuel, hf⟩ := h
  obtain ⟨fs, hu⟩ : ∃ fs, Try.prog.underlying Y_api_Data = some (.struct fs) := ⟨Try.prog.fieldsOf Y_api_Data, by kernel_rfl⟩
  obtain ⟨cs, rfl, _⟩ := okWide_struct hu hv
  obtain ⟨⟨a, u⟩, h1, ⟨h2, h3⟩, h4⟩ := opn_data hf
  have h5 : cs = (daC a u).toArray := by
    have : cs.toList = daC a u := h1
    rw [← this]
  exact ⟨a, u, by rw [h5], h2, okD_of h3 (Nat.le_trans h4 hb)⟩
theorem arg_int {r : Reach} {b0 : Nat} {v : Value} {d : DataW H} {p : List MemPlace} (h : DataW.Trod enc Try.prog w base sp held Y_int v d p) (hv : Value.okWide Try.prog w r b0 Y_int v) : ∃ n : Int, v = .int .i64 n := by
  exact okWide_int (by kernel_rfl) hv
theorem arg_str {r : Reach} {b0 t : Nat} {v : Value} {d : DataW H} {p : List MemPlace} (ht : Try.prog.underlying t = some .string) (hv : Value.okWide Try.prog w r b0 t v) (h : DataW.Trod enc Try.prog w base sp held t v d p) : ∃ l : By, v = str l ∧ l.length + 1 ≤ Rows.uptoBulk d := by
  obtain ⟨s, rfl⟩ := okWide_string ht hv
  obtain ⟨fuel, hf⟩ := h
  obtain ⟨l, h1, h2⟩ := opn_str (h := ⟨ht⟩) hf
  simp [Value.cells] at h1
  exact ⟨l, by rw [h1], h2⟩
theorem arg_strs {r : Reach} {b0 t e : Nat} {v : Value} {d : DataW H} {p : List MemPlace} (ht : Try.prog.underlying t = some (.slice e)) (he : Try.prog.underlying e = some .string) (hz : Try.prog.cellsOf e = 1) (hv : Value.okWide Try.prog w r b0 t v) (h : DataW.Trod enc Try.prog w base sp held t v d p) :
    ∃ l : List By, SlOk w v l.length (strs l) 1 ∧ l.length + 1 ≤ Rows.uptoBulk d ∧ ∀ x ∈ l, x.length + 1 ≤ Rows.uptoBulk d := by
  obtain ⟨a, n, c, rfl⟩ := okWide_slice ht hv
  obtain ⟨fuel, hf⟩ := h
  obtain ⟨v, l, h1, h2, h3, h4⟩ := opn_strs ht he hz hf
  simp [Value.cells] at h1
  subst h1
  exact ⟨l, h2, h3, fun x hx => by have := le_sum List.length hx; simp only [UB] at h4; omega⟩
end
theorem ownKn : ownKnob Try.prog.godebug = Option.none := by kernel_rfl
theorem laid : laidOutB Try.prog = true := by kernel_rfl
/-- the end of each law -/
theorem law_post {H : Type} {enc : TypeId × Value → H} {f : Func} {s : ChangeSpec} {W W' : World} {args : Array Value} {ds gs : List (DataW H)} {before : List MemPlace} {sp : List Nat} {L : List (Nat × Ent)}
    (hW : DataW.Whole enc Try.prog f.params.toList s.vars false W args.toList ds gs before) (hv : s.vars = []) (hp : ∀ t ∈ f.params.toList, Try.prog.readableRec t = true ∧ t < Try.prog.types.size) (hr : f.resultTypes = #[Y_bool])
    (hs : (s.fn H (ds ++ gs)).results = [.lit (.bool true)]) (ha : (s.fn H (ds ++ gs)).args = ds) (hg : (s.fn H (ds ++ gs)).vars = []) (hA : At W ⟨[], sp⟩ W' L) {u : Value} (hu : u = .bool true) :
    s.post enc Try.prog f false true false false W args u W' := by
  subst hu
  have hW' := hW
  obtain ⟨p, q, h1, h2, rfl, h3, h4⟩ := hW
  rw [hv] at h2
  obtain ⟨_, rfl⟩ := trodVars_none h2
  have hlt : ∀ x ∈ p, x.block < W.heap.size := fun x hx => hW'.lt x (by simp [hx])
  have hb := At.below hA
  refine post_of_below (pa := p) (pv := []) hW' (fun b sp hd => ?_) (fun sp hsp => ?_) (fun sp hsp => ?_) rfl hb ?_
  · rw [hs, hr]
    exact trodAll_cons_mk (shut_bool (by kernel_rfl) _) trodAll_mk0
  · rw [ha]
    have : ∀ (ts : List TypeId) (vs : List Value) (ds : List (DataW H)) (p : List MemPlace), (∀ t ∈ ts, Try.prog.readableRec t = true ∧ t < Try.prog.types.size) → (∀ x ∈ p, x.block < W.heap.size ∧ sp x.block = true) →
        DataW.TrodAll enc Try.prog W 0 (fun _ => true) true ts vs ds p → DataW.TrodAll enc Try.prog W' 0 sp true ts vs ds p := by
      intro ts
      induction ts with
      | nil =>
        intro vs ds p _ _ h
        obtain ⟨rfl, rfl, rfl⟩ := trodAll_nil h
        exact trodAll_mk0
      | cons t ts ih =>
        intro vs ds p hts hpp h
        obtain ⟨v, vs, d, ds, a, b, rfl, rfl, rfl, g1, g2⟩ := trodAll_cons h
        obtain ⟨k1, k2⟩ := hts t (by simp)
        exact ⟨a, b, WideElems.Trod_stays laid k1 k2 g1 (fun x hx => hb.same (hpp x (by simp [hx])).1) (fun x hx => (hpp x (by simp [hx])).2), ih vs ds b (fun t ht => hts t (by simp [ht])) (fun x hx => hpp x (by simp [hx])) g2, rfl⟩
    exact this _ _ _ _ hp (fun x hx => ⟨hlt x hx, hsp x (by simp [hx])⟩) h1
  · rw [hv, hg]
    exact rfl
  · refine ok_one hr rfl ?_
    exact okWide_bool_mk (by kernel_rfl) _
end Go.Proofs.Ytkpinncakbnikaa
namespace Go.Proofs.Ytkpinncakbnikaa
open Go Np Go.Proofs
set_option linter.all false
set_option maxRecDepth 20000
abbrev rcC (r : Rc) (v : Value) : List Value := str r.name :: .int .i64 r.typ :: .int .i64 r.cls :: .int .u32 (r.ttl : Nat) :: daC r.data v
abbrev rcV (r : Rc) (v : Value) : Value := .agg (rcC r v).toArray
abbrev qnC (q : Qn) : List Value := [str q.name, .int .i64 q.typ, .int .i64 q.cls]
abbrev qnV (q : Qn) : Value := .agg (qnC q).toArray
def rcur (c : Rk) : Ent := exE fun br : Nat => andE (cells [str c.s, ptr br, .int .i64 c.e] Y_record_cursor) br (reader ⟨c.s, c.at'⟩)
section
variable {w0 w : World} {F : Fp} {L L' : List (Nat × Ent)} {b bd bw bp : Nat} {K : Value → World → Prop} {n : Nat} {d : Dat} {v u : Value} {s nm : By} {a e t cl : Int} {r : Rc} {q : Qn} {c : Rk} {p : Pk}
instance [h : At w0 F w L] : Step (Gv Try.prog F_record_may #[str nm, .int .i64 t, .int .i64 cl] w K) (nm.length ≤ 1048576 ∧ ∀ w', At w0 F w' L → K (.int .i64 (mayR nm t cl)) w') := ⟨fun ⟨h1, hk⟩ => by
  refine ok_record_may ?_
  unfold T_record_may
  unfold mayR at hk
  repeat' (first | refine Step.out ?_ | refine And.intro (fun h => ?_) (fun h => ?_) | intro _ | refine GW.i64 (by omega) ?_ | refine GW.u32 (by omega) ?_ | refine GW.u64 (by omega) ?_ | refine GW.u8 (by omega) ?_ | refine GW.u16 (by omega) ?_ | refine And.intro rfl ?_ | refine And.intro (by assumption) ?_ | refine And.intro (by omega) ?_ | refine And.intro (by simp only [List.length_append, List.length_replicate, List.length_drop, List.length_take, List.length_cons, List.length_nil, u8s_len, be_length]; omega) ?_ | fail)
  · rw [if_pos (by assumption)] at hk; exact hk _ ‹_›
  · rw [if_neg (by assumption), if_pos (by omega)] at hk; exact hk _ ‹_›
  · rw [if_neg (by assumption), if_pos (by omega)] at hk; exact hk _ ‹_›
  · rw [if_neg (by assumption), if_neg (by omega)] at hk; exact hk _ ‹_›⟩
instance [h : At w0 F w L] [hs : HasS L v n (strs r.data.texts) 1] : Step (Gv Try.prog F_record_Check #[rcV r v] w K) (OkR r ∧ ∀ w', At w0 F w' L → K (.int .i64 (rcChk r)) w') := ⟨fun ⟨h1, hk⟩ => by
  have hn := h1.name
  have hd := h1.data
  refine ok_record_Check ?_
  unfold T_record_Check
  unfold rcChk at hk
  repeat' (first | refine Step.out ?_ | refine And.intro (fun h => ?_) (fun h => ?_) | intro _ | refine GW.i64 (by omega) ?_ | refine GW.u32 (by omega) ?_ | refine GW.u64 (by omega) ?_ | refine GW.u8 (by omega) ?_ | refine GW.u16 (by omega) ?_ | refine And.intro rfl ?_ | refine And.intro (by assumption) ?_ | refine And.intro (by omega) ?_ | refine And.intro (by simp only [List.length_append, List.length_replicate, List.length_drop, List.length_take, List.length_cons, List.length_nil, u8s_len, be_length]; omega) ?_ | fail)
  · rw [if_pos (by assumption)] at hk; exact hk _ (At.sb ‹_›)
  · rw [if_neg (by assumption)] at hk; exact hk _ (At.sb ‹_›)⟩
instance [h : At w0 F w L] : Step (Gv Try.prog F_record_CheckQuestion #[qnV q] w K) (OkQ q ∧ ∀ w', At w0 F w' L → K (.int .i64 (qnChk q)) w') := ⟨fun ⟨h1, hk⟩ => by
  have hn := h1.name
  refine ok_record_CheckQuestion ?_
  unfold T_record_CheckQuestion
  unfold qnChk at hk
  repeat' (first | refine Step.out ?_ | refine And.intro (fun h => ?_) (fun h => ?_) | intro _ | refine GW.i64 (by omega) ?_ | refine GW.u32 (by omega) ?_ | refine GW.u64 (by omega) ?_ | refine GW.u8 (by omega) ?_ | refine GW.u16 (by omega) ?_ | refine And.intro rfl ?_ | refine And.intro (by assumption) ?_ | refine And.intro (by omega) ?_ | refine And.intro (by simp only [List.length_append, List.length_replicate, List.length_drop, List.length_take, List.length_cons, List.length_nil, u8s_len, be_length]; omega) ?_ | fail)
  exact hk _ (At.sb ‹_›)⟩
instance [h : At w0 F w L] [hp : Rm L b (packer p) L'] : Step (Gv Try.prog F_record_head #[ptr b, str nm, .int .i64 t, .int .i64 cl] w K) ((nm.length ≤ 1048576 ∧ (0 ≤ t ∧ t ≤ 65535) ∧ (0 ≤ cl ∧ cl ≤ 65535)) ∧ ∀ w', At w0 F w' ((b, packer (headP p nm t cl)) :: L') → K (.tuple #[]) w') := ⟨fun ⟨⟨h1, h2, h3⟩, hk⟩ => by
  refine ok_record_head ?_
  unfold T_record_head
  unfold headP at hk
  repeat' (first | refine Step.out ?_ | refine And.intro (fun h => ?_) (fun h => ?_) | intro _ | refine GW.i64 (by omega) ?_ | refine GW.u32 (by omega) ?_ | refine GW.u64 (by omega) ?_ | refine GW.u8 (by omega) ?_ | refine GW.u16 (by omega) ?_ | refine And.intro rfl ?_ | refine And.intro (by assumption) ?_ | refine And.intro (by omega) ?_ | refine And.intro (by simp only [List.length_append, List.length_replicate, List.length_drop, List.length_take, List.length_cons, List.length_nil, u8s_len, be_length]; omega) ?_ | fail)
  exact hk _ (At.pm ‹_›)⟩
instance [h : At w0 F w L] [hp : Rm L b (packer p) L'] : Step (Gv Try.prog F_record_PutQuestion #[ptr b, qnV q] w K) (OkQ q ∧ ∀ w', At w0 F w' ((b, packer (qnPut p q).1) :: L') → K (.int .i64 (qnPut p q).2) w') := ⟨fun ⟨h1, hk⟩ => by
  have hn := h1.name
  refine ok_record_PutQuestion ?_
  unfold T_record_PutQuestion
  unfold qnPut at hk
  repeat' (first | refine Step.out ?_ | refine And.intro (fun h => ?_) (fun h => ?_) | intro _ | refine GW.i64 (by omega) ?_ | refine GW.u32 (by omega) ?_ | refine GW.u64 (by omega) ?_ | refine GW.u8 (by omega) ?_ | refine GW.u16 (by omega) ?_ | refine And.intro rfl ?_ | refine And.intro (by assumption) ?_ | refine And.intro (by omega) ?_ | refine And.intro (by simp only [List.length_append, List.length_replicate, List.length_drop, List.length_take, List.length_cons, List.length_nil, u8s_len, be_length]; omega) ?_ | fail)
  · rw [if_pos (by assumption)] at hk; exact hk _ (At.sb ‹_›)
  · have hm := mayR_ok (show mayR q.name q.typ q.cls = 0 from Decidable.not_not.1 (show ¬ qnChk q ≠ 0 by assumption))
    rw [if_neg (by assumption)] at hk
    repeat' (first | refine Step.out ?_ | refine And.intro (fun h => ?_) (fun h => ?_) | intro _ | refine GW.i64 (by omega) ?_ | refine GW.u32 (by omega) ?_ | refine GW.u64 (by omega) ?_ | refine GW.u8 (by omega) ?_ | refine GW.u16 (by omega) ?_ | refine And.intro rfl ?_ | refine And.intro (by assumption) ?_ | refine And.intro (by omega) ?_ | refine And.intro (by simp only [List.length_append, List.length_replicate, List.length_drop, List.length_take, List.length_cons, List.length_nil, u8s_len, be_length]; omega) ?_ | fail)
    exact hk _ (At.sb ‹_›)⟩
instance [h : At w0 F w L] : Step (Gv Try.prog F_record_PutQuestion #[.pointer none, qnV q] w K) (∀ w', At w0 F w' L → K (.int .i64 1) w') := ⟨fun hk => by
  refine ok_record_PutQuestion ?_
  unfold T_record_PutQuestion
  repeat' (first | refine Step.out ?_ | refine And.intro (fun h => ?_) (fun h => ?_) | intro _ | refine GW.i64 (by omega) ?_ | refine GW.u32 (by omega) ?_ | refine GW.u64 (by omega) ?_ | refine GW.u8 (by omega) ?_ | refine GW.u16 (by omega) ?_ | refine And.intro rfl ?_ | refine And.intro (by assumption) ?_ | refine And.intro (by omega) ?_ | refine And.intro (by simp only [List.length_append, List.length_replicate, List.length_drop, List.length_take, List.length_cons, List.length_nil, u8s_len, be_length]; omega) ?_ | fail)
  exact hk _ (At.sb ‹_›)⟩
instance [h : At w0 F w L] : Step (Gv Try.prog F_record_Put #[.pointer none, rcV r v] w K) (∀ w', At w0 F w' L → K (.int .i64 1) w') := ⟨fun hk => by
  refine ok_record_Put ?_
  unfold T_record_Put
  repeat' (first | refine Step.out ?_ | refine And.intro (fun h => ?_) (fun h => ?_) | intro _ | refine GW.i64 (by omega) ?_ | refine GW.u32 (by omega) ?_ | refine GW.u64 (by omega) ?_ | refine GW.u8 (by omega) ?_ | refine GW.u16 (by omega) ?_ | refine And.intro rfl ?_ | refine And.intro (by assumption) ?_ | refine And.intro (by omega) ?_ | refine And.intro (by simp only [List.length_append, List.length_replicate, List.length_drop, List.length_take, List.length_cons, List.length_nil, u8s_len, be_length]; omega) ?_ | fail)
  exact hk _ (At.sb ‹_›)⟩
theorem c_rPut (h1 : OkR r) : Ct Try.prog F_record_Put #[ptr b, rcV r v] [(b, packer p), (0, sl v n (strs r.data.texts) 1)] fun u B => u = .int .i64 (rcPut p r).2 ∧ B = [(b, packer (rcPut p r).1)] := by
  intro w0 F w hA
  have hn := h1.name
  have hd := h1.data
  have ht := h1.ttl
  refine ok_record_Put ?_
  unfold T_record_Put
  unfold rcPut
  repeat' (first | refine Step.out ?_ | refine And.intro (fun h => ?_) (fun h => ?_) | intro _ | refine GW.i64 (by omega) ?_ | refine GW.u32 (by omega) ?_ | refine GW.u64 (by omega) ?_ | refine GW.u8 (by omega) ?_ | refine GW.u16 (by omega) ?_ | refine And.intro rfl ?_ | refine And.intro (by assumption) ?_ | refine And.intro (by omega) ?_ | refine And.intro (by simp only [List.length_append, List.length_replicate, List.length_drop, List.length_take, List.length_cons, List.length_nil, u8s_len, be_length]; omega) ?_ | fail)
  · rw [if_pos (by assumption)]; exact ⟨_, ⟨rfl, rfl⟩, At.pd [b] ‹_›⟩
  all_goals
    have hm := mayR_ok (rcChk_ok (show rcChk r = 0 from Decidable.not_not.1 (show ¬ rcChk r ≠ 0 by assumption))).1
    rw [if_neg (by assumption)]
    repeat' (first | refine Step.out ?_ | refine And.intro (fun h => ?_) (fun h => ?_) | intro _ | refine GW.i64 (by omega) ?_ | refine GW.u32 (by omega) ?_ | refine GW.u64 (by omega) ?_ | refine GW.u8 (by omega) ?_ | refine GW.u16 (by omega) ?_ | refine And.intro rfl ?_ | refine And.intro (by assumption) ?_ | refine And.intro (by omega) ?_ | refine And.intro (by simp only [List.length_append, List.length_replicate, List.length_drop, List.length_take, List.length_cons, List.length_nil, u8s_len, be_length]; omega) ?_ | fail)
  · rw [if_pos (show (putD (rcHead p r).begin.1 r.typ r.data).2 ≠ 0 by assumption)]
    exact ⟨_, ⟨rfl, rfl⟩, At.pd [b] ‹_›⟩
  · rw [if_neg (show ¬ (putD (rcHead p r).begin.1 r.typ r.data).2 ≠ 0 by assumption)]
    exact ⟨_, ⟨rfl, rfl⟩, At.pd [b] ‹_›⟩
instance [h : At w0 F w L] [hp : Rm L b (packer p) L'] [hs : HasS L v n (strs r.data.texts) 1] : Step (Gv Try.prog F_record_Put #[ptr b, rcV r v] w K) (OkR r ∧ ∀ w', At w0 F w' ((b, packer (rcPut p r).1) :: L') → K (.int .i64 (rcPut p r).2) w') :=
  ⟨fun ⟨hd, hk⟩ => Ct.call (A := [(b, packer p), (0, sl v n (strs r.data.texts) 1)]) (R := L') (c_rPut (p := p) hd) ((hp.perm.cons _).trans (List.Perm.swap _ _ _)) (h.dupS hs) fun u B w' ⟨h1, h2⟩ h3 => by
    subst h1; rw [h2] at h3; exact hk w' h3⟩
instance [h : At w0 F w L] [hs : HasS L v n (strs r.data.texts) 1] : Step (Gv Try.prog F_record_Size #[rcV r v] w K) (OkR r ∧ ∀ w', At w0 F w' L → K (.int .i64 (rcSize r)) w') := ⟨fun ⟨h1, hk⟩ => by
  have hn := h1.name
  have hd := h1.data
  refine ok_record_Size ?_
  unfold T_record_Size
  unfold rcSize at hk
  repeat' (first | refine Step.out ?_ | refine And.intro (fun h => ?_) (fun h => ?_) | intro _ | refine GW.i64 (by omega) ?_ | refine GW.u32 (by omega) ?_ | refine GW.u64 (by omega) ?_ | refine GW.u8 (by omega) ?_ | refine GW.u16 (by omega) ?_ | refine And.intro rfl ?_ | refine And.intro (by assumption) ?_ | refine And.intro (by omega) ?_ | refine And.intro (by simp only [List.length_append, List.length_replicate, List.length_drop, List.length_take, List.length_cons, List.length_nil, u8s_len, be_length]; omega) ?_ | fail)
  · rw [if_pos (by assumption)] at hk; exact hk _ (At.sb ‹_›)
  · rw [if_neg (by assumption)] at hk
    have hc := Decidable.not_not.1 (show ¬ rcChk r ≠ 0 by assumption)
    have hz := szD_nonneg hd (rcChk_ok hc).2
    have hz2 := (chkD_ck (rcChk_ok hc).2).2
    have hz3 := sizeN_le hn
    repeat' (first | refine Step.out ?_ | refine And.intro (fun h => ?_) (fun h => ?_) | intro _ | refine GW.i64 (by omega) ?_ | refine GW.u32 (by omega) ?_ | refine GW.u64 (by omega) ?_ | refine GW.u8 (by omega) ?_ | refine GW.u16 (by omega) ?_ | refine And.intro rfl ?_ | refine And.intro (by assumption) ?_ | refine And.intro (by omega) ?_ | refine And.intro (by simp only [List.length_append, List.length_replicate, List.length_drop, List.length_take, List.length_cons, List.length_nil, u8s_len, be_length]; omega) ?_ | fail)
    exact hk _ (At.sb ‹_›)⟩
theorem Qn.eq_iff (x y : Qn) : x = y ↔ (x.name = y.name ∧ x.typ = y.typ ∧ x.cls = y.cls) := by cases x; cases y; simp
theorem Rc.eq_iff (x y : Rc) : x = y ↔ (x.name = y.name ∧ x.typ = y.typ ∧ x.cls = y.cls ∧ (x.ttl : Int) = y.ttl ∧ x.data = y.data) := by cases x; cases y; simp only [Rc.mk.injEq, Int.natCast_inj]
instance {x y : Qn} : Decidable (x = y) := decidable_of_iff _ (Qn.eq_iff x y).symm
instance {x y : Qn} [h : At w0 F w L] : Step (Gv Try.prog F_record_SameQuestion #[qnV x, qnV y] w K) (∀ w', At w0 F w' L → K (.bool (dec (x = y))) w') := ⟨fun hk => by
  refine ok_record_SameQuestion ?_
  unfold T_record_SameQuestion
  repeat' (first | refine Step.out ?_ | refine And.intro (fun h => ?_) (fun h => ?_) | intro _ | refine GW.i64 (by omega) ?_ | refine GW.u32 (by omega) ?_ | refine GW.u64 (by omega) ?_ | refine GW.u8 (by omega) ?_ | refine GW.u16 (by omega) ?_ | refine And.intro rfl ?_ | refine And.intro (by assumption) ?_ | refine And.intro (by omega) ?_ | refine And.intro (by simp only [List.length_append, List.length_replicate, List.length_drop, List.length_take, List.length_cons, List.length_nil, u8s_len, be_length]; omega) ?_ | fail)
  have e : (dec (x.name = y.name) && (dec (x.typ = y.typ) && dec (x.cls = y.cls))) = dec (x = y) := by
    refine Bool.eq_iff_iff.2 ?_
    rw [dec_iff, Bool.and_eq_true, Bool.and_eq_true, dec_iff, dec_iff, dec_iff, Qn.eq_iff]
  rw [e]
  exact hk _ (At.sb ‹_›)⟩
instance {x y : Rc} {m : Nat} [h : At w0 F w L] [r1 : HasS L v n (strs x.data.texts) 1] [r2 : HasS L u m (strs y.data.texts) 1] : Step (Gv Try.prog F_record_Same #[rcV x v, rcV y u] w K) (n ≤ 1099511627776 ∧ ∀ q w', (q = true ↔ x = y) → At w0 F w' L → K (.bool q) w') := ⟨fun ⟨hn, hk⟩ => by
  refine ok_record_Same ?_
  unfold T_record_Same
  have hq := Rc.eq_iff x y
  repeat' (first | refine Step.out ?_ | refine And.intro (fun h => ?_) (fun h => ?_) | intro _ | refine GW.i64 (by omega) ?_ | refine GW.u32 (by omega) ?_ | refine GW.u64 (by omega) ?_ | refine GW.u8 (by omega) ?_ | refine GW.u16 (by omega) ?_ | refine And.intro rfl ?_ | refine And.intro (by assumption) ?_ | refine And.intro (by omega) ?_ | refine And.intro (by simp only [List.length_append, List.length_replicate, List.length_drop, List.length_take, List.length_cons, List.length_nil, u8s_len, be_length]; omega) ?_ | fail)
  rename_i ba wa ga bb wb gb c1 w1 k1 g1 c2 w2 k2 g2 c3 w3 k3 g3 c4 w4 k4 g4 bs w5 g5
  haveI g6 : At w0 F w5 ((bs, sl _ 4 (ivs [c1, c2, c3, c4]) 1) :: _) := g5.freeze
  clear g5
  refine Step.out ⟨by decide, ?_⟩
  have hz : (∀ z ∈ [c1, c2, c3, c4], z = 0) ↔ (c1 = 0 ∧ c2 = 0 ∧ c3 = 0 ∧ c4 = 0) := by simp
  rw [hz]
  repeat' (first | refine Step.out ?_ | refine And.intro (fun h => ?_) (fun h => ?_) | intro _ | refine GW.i64 (by omega) ?_ | refine GW.u32 (by omega) ?_ | refine GW.u64 (by omega) ?_ | refine GW.u8 (by omega) ?_ | refine GW.u16 (by omega) ?_ | refine And.intro rfl ?_ | refine And.intro (by assumption) ?_ | refine And.intro (by omega) ?_ | refine And.intro (by simp only [List.length_append, List.length_replicate, List.length_drop, List.length_take, List.length_cons, List.length_nil, u8s_len, be_length]; omega) ?_ | fail)
  · exact hk _ _ (by rw [hq]; grind) (At.sb ‹_›)
  · exact hk _ _ (by rw [hq]; grind) (At.sb ‹_›)⟩
theorem rcur_open (h : At w0 F w ((b, rcur c) :: L)) : ∃ br, At w0 F w ((b, cells [str c.s, ptr br, .int .i64 c.e] Y_record_cursor) :: (br, reader ⟨c.s, c.at'⟩) :: L) := by
  obtain ⟨br, h⟩ := At.exE_iff.1 h
  exact ⟨br, At.andE_iff.1 h⟩
theorem rcur_close {br : Nat} {s : By} {a : Nat} {e : Int} (h : At w0 F w ((b, cells [str s, ptr br, .int .i64 e] Y_record_cursor) :: (br, reader ⟨s, a⟩) :: L)) : At w0 F w ((b, rcur ⟨s, a, e⟩) :: L) :=
  At.exE_iff.2 ⟨br, At.andE_iff.2 h⟩
theorem rk_of (s : By) (a : Nat) (x : Int) : (⟨((Rr.mk s a).seek x).1.s, ((Rr.mk s a).seek x).1.at', ((Rr.mk s a).seek x).2⟩ : Rk) = if x < 0 ∨ s.length < x then ⟨s, a, 2⟩ else ⟨s, x.toNat, 0⟩ := by
  unfold Rr.seek
  split <;> rfl
theorem seek_eta (s : By) (a : Nat) (x : Int) : ((Rr.mk s a).seek x).1 = ⟨s, ((Rr.mk s a).seek x).1.at'⟩ := by
  unfold Rr.seek
  split <;> rfl
instance [h : At w0 F w L] : Step (Gv Try.prog F_record_at #[str s, .int .i64 a] w K) (s.length ≤ 1099511627776 ∧ ∀ b w', At w0 F w' ((b, rcur (rkAt s a)) :: L) → K (ptr b) w') := ⟨fun ⟨h1, hk⟩ => by
  refine ok_record_at ?_
  unfold T_record_at
  repeat' (first | refine Step.out ?_ | refine And.intro (fun h => ?_) (fun h => ?_) | intro _ | refine GW.i64 (by omega) ?_ | refine GW.u32 (by omega) ?_ | refine GW.u64 (by omega) ?_ | refine GW.u8 (by omega) ?_ | refine GW.u16 (by omega) ?_ | refine And.intro rfl ?_ | refine And.intro (by assumption) ?_ | refine And.intro (by omega) ?_ | refine And.intro (by simp only [List.length_append, List.length_replicate, List.length_drop, List.length_take, List.length_cons, List.length_nil, u8s_len, be_length]; omega) ?_ | fail)
  rename_i br w1 g1 bc w2 g2 w3 g3 w4 g4
  have e : rkAt s a = ⟨s, ((Rr.mk s 0).seek a).1.at', ((Rr.mk s 0).seek a).2⟩ := by
    have := rk_of s 0 a
    unfold rkAt
    rw [← this]
    unfold Rr.seek
    split <;> rfl
  refine hk _ _ ?_
  rw [e]
  refine rcur_close (br := br) ?_
  rw [← seek_eta]
  exact At.pk [bc, br] ‹_›⟩
theorem list_set_self {α : Type} {l : List α} {i : Nat} {x : α} (h : l[i]? = some x) : l.set i x = l := by
  apply List.ext_getElem?
  intro j
  rw [List.getElem?_set]
  split
  · rename_i hij; subst hij
    split
    · exact h.symm
    · rw [List.getElem?_eq_none (by omega)]
  · rfl
theorem c_rname {o : Nat} {L1 L2 : List (Nat × Ent)} {cs us : List Value} {T : Nat} [h : At w0 F w L] [r1 : Rm L b (rcur c) L1] [r2 : Rm L1 bd (cells cs T) L2] [x : Nth cs o (str nm)] [y : Setn cs o (str (c.name nm).2) us]
    (hk : ∀ w', At w0 F w' ((bd, cells us T) :: (b, rcur (c.name nm).1) :: L2) → K (ptr b) w') : Gv Try.prog F_record_cursor_name #[ptr b, .pointer (some ⟨bd, o, none⟩)] w K := by
  obtain ⟨br, hA⟩ := rcur_open (h.perm (r1.perm.trans (r2.perm.cons _)))
  have hs := (reader_open (hA.perm (List.Perm.swap _ _ _))).1
  clear h
  refine ok_record_cursor_name ?_
  unfold T_record_cursor_name
  unfold Rk.name at hk y
  simp only at hs
  by_cases he : c.e = 0
  · rw [if_neg (by omega)] at y hk
    haveI y1 : Setn cs o (str (rdName c.s (c.at' : Int) true).1) us := ⟨by
      rw [← y.h]
      simp only
      split
      · rfl
      · split <;> rfl, y.lt⟩
    clear y
    repeat' (first | refine Step.out ?_ | refine And.intro (fun h => ?_) (fun h => ?_) | intro _ | refine GW.i64 (by omega) ?_ | refine GW.u32 (by omega) ?_ | refine GW.u64 (by omega) ?_ | refine GW.u8 (by omega) ?_ | refine GW.u16 (by omega) ?_ | refine And.intro rfl ?_ | refine And.intro (by assumption) ?_ | refine And.intro (by omega) ?_ | refine And.intro (by simp only [List.length_append, List.length_replicate, List.length_drop, List.length_take, List.length_cons, List.length_nil, u8s_len, be_length]; omega) ?_ | fail)
    · exact absurd he (by assumption)
    · have h0 := ‹(rdName _ _ _).2.2 = 0›
      rw [if_neg (fun h => h h0)] at hk
      have hAz := ‹At w0 F _ ((b, cells _ _) :: _)›
      have hr := rk_of c.s c.at' (rdName c.s (c.at' : Int) true).2.1
      refine hk _ ?_
      rw [show (if (rdName c.s (c.at' : Int) true).2.1 < 0 ∨ (c.s.length : Int) < (rdName c.s (c.at' : Int) true).2.1 then ({ c with e := 2 }, (rdName c.s (c.at' : Int) true).1) else ((⟨c.s, (rdName c.s (c.at' : Int) true).2.1.toNat, 0⟩ : Rk), (rdName c.s (c.at' : Int) true).1)).1 = (⟨c.s, ((Rr.mk c.s c.at').seek (rdName c.s (c.at' : Int) true).2.1).1.at', ((Rr.mk c.s c.at').seek (rdName c.s (c.at' : Int) true).2.1).2⟩ : Rk) from by
        unfold Rr.seek
        split <;> rfl]
      have hAy := At.pk [b, br, bd] hAz
      rw [seek_eta] at hAy
      exact (rcur_close (br := br) hAy).perm (List.Perm.swap _ _ _)
    · have h0 := ‹¬ (rdName _ _ _).2.2 = 0›
      rw [if_pos h0] at hk
      exact hk _ ((rcur_close (br := br) (At.pk [b, br, bd] ‹_›)).perm (List.Perm.swap _ _ _))
  · rw [if_pos he] at y hk
    have hu : us = cs := by
      have h1 := y.h
      have h2 := x.h
      rw [← h1]
      exact list_set_self h2
    subst hu
    repeat' (first | refine Step.out ?_ | refine And.intro (fun h => ?_) (fun h => ?_) | intro _ | refine GW.i64 (by omega) ?_ | refine GW.u32 (by omega) ?_ | refine GW.u64 (by omega) ?_ | refine GW.u8 (by omega) ?_ | refine GW.u16 (by omega) ?_ | refine And.intro rfl ?_ | refine And.intro (by assumption) ?_ | refine And.intro (by omega) ?_ | refine And.intro (by simp only [List.length_append, List.length_replicate, List.length_drop, List.length_take, List.length_cons, List.length_nil, u8s_len, be_length]; omega) ?_ | fail)
    · exact hk _ ((rcur_close (br := br) ‹_›).perm (List.Perm.swap _ _ _))
    · exact absurd (Decidable.not_not.1 (by assumption)) he
instance i_rname {o : Nat} {L1 L2 : List (Nat × Ent)} {cs us : List Value} {T : Nat} [h : At w0 F w L] [r1 : Rm L b (rcur c) L1] [r2 : Rm L1 bd (cells cs T) L2] [x : Nth cs o (str nm)] [y : Setn cs o (str (c.name nm).2) us] :
    Step (Gv Try.prog F_record_cursor_name #[ptr b, .pointer (some ⟨bd, o, none⟩)] w K) (∀ w', At w0 F w' ((bd, cells us T) :: (b, rcur (c.name nm).1) :: L2) → K (ptr b) w') := ⟨fun hk => c_rname hk⟩
instance [h : At w0 F w L] [r1 : Rm L b (rcur c) L'] : Step (Gv Try.prog F_record_cursor_has #[ptr b, .int .i64 a] w K) (∀ w', At w0 F w' ((b, rcur (c.has a)) :: L') → K (ptr b) w') := ⟨fun hk => by
  obtain ⟨br, hA⟩ := rcur_open (h.perm r1.perm)
  clear h
  refine ok_record_cursor_has ?_
  unfold T_record_cursor_has
  unfold Rk.has at hk
  repeat' (first | refine Step.out ?_ | refine And.intro (fun h => ?_) (fun h => ?_) | intro _ | refine GW.i64 (by omega) ?_ | refine GW.u32 (by omega) ?_ | refine GW.u64 (by omega) ?_ | refine GW.u8 (by omega) ?_ | refine GW.u16 (by omega) ?_ | refine And.intro rfl ?_ | refine And.intro (by assumption) ?_ | refine And.intro (by omega) ?_ | refine And.intro (by simp only [List.length_append, List.length_replicate, List.length_drop, List.length_take, List.length_cons, List.length_nil, u8s_len, be_length]; omega) ?_ | fail)
  · rw [if_pos ⟨by assumption, by assumption⟩] at hk; exact hk _ (rcur_close (br := br) (At.pk [b, br] ‹_›))
  · rw [if_neg (fun h => absurd h.2 (by assumption))] at hk; exact hk _ (rcur_close (br := br) (At.pk [b, br] ‹_›))
  · rw [if_neg (fun h => absurd h.1 (by assumption))] at hk; exact hk _ (rcur_close (br := br) (At.pk [b, br] ‹_›))⟩
theorem num_eta (s : By) (a : Nat) (n : Int) : ((Rr.mk s a).num n).1 = ⟨s, ((Rr.mk s a).num n).1.at'⟩ := by
  unfold Rr.num
  split
  · rfl
  · have := (Rr.take_at ⟨s, a⟩ n).1
    generalize (Rr.mk s a).take n = y at *
    obtain ⟨⟨s', a'⟩, y⟩ := y
    simp only at this
    subst this
    rfl
theorem c_rnumber {o : Nat} {L1 L2 : List (Nat × Ent)} {cs us : List Value} {T : Nat} {z : Int} [h : At w0 F w L] [r1 : Rm L b (rcur c) L1] [r2 : Rm L1 bd (cells cs T) L2] [x : Nth cs o (.int .i64 z)] [y : Setn cs o (.int .i64 (c.num a z).2) us]
    (hk : ∀ w', At w0 F w' ((bd, cells us T) :: (b, rcur (c.num a z).1) :: L2) → K (ptr b) w') : Gv Try.prog F_record_cursor_number #[ptr b, .int .i64 a, .pointer (some ⟨bd, o, none⟩)] w K := by
  obtain ⟨br, hA⟩ := rcur_open (h.perm (r1.perm.trans (r2.perm.cons _)))
  clear h
  refine ok_record_cursor_number ?_
  unfold T_record_cursor_number
  unfold Rk.num at hk y
  by_cases he : c.e = 0
  · rw [if_neg (by omega)] at y hk
    simp only at y hk
    have hnl := Rr.num_le ⟨c.s, c.at'⟩ a
    repeat' (first | refine Step.out ?_ | refine And.intro (fun h => ?_) (fun h => ?_) | intro _ | refine GW.i64 (by omega) ?_ | refine GW.u32 (by omega) ?_ | refine GW.u64 (by omega) ?_ | refine GW.u8 (by omega) ?_ | refine GW.u16 (by omega) ?_ | refine And.intro rfl ?_ | refine And.intro (by assumption) ?_ | refine And.intro (by omega) ?_ | refine And.intro (by simp only [List.length_append, List.length_replicate, List.length_drop, List.length_take, List.length_cons, List.length_nil, u8s_len, be_length]; omega) ?_ | fail)
    · refine hk _ ?_
      have hAy := At.pk [b, br, bd] ‹At w0 F _ ((bd, cells _ _) :: _)›
      rw [num_eta] at hAy
      exact (rcur_close (br := br) hAy).perm (List.Perm.swap _ _ _)
    · exact absurd he (by assumption)
  · rw [if_pos he] at y hk
    have hu : us = cs := by
      have h1 := y.h
      have h2 := x.h
      rw [← h1]
      exact list_set_self h2
    subst hu
    repeat' (first | refine Step.out ?_ | refine And.intro (fun h => ?_) (fun h => ?_) | intro _ | refine GW.i64 (by omega) ?_ | refine GW.u32 (by omega) ?_ | refine GW.u64 (by omega) ?_ | refine GW.u8 (by omega) ?_ | refine GW.u16 (by omega) ?_ | refine And.intro rfl ?_ | refine And.intro (by assumption) ?_ | refine And.intro (by omega) ?_ | refine And.intro (by simp only [List.length_append, List.length_replicate, List.length_drop, List.length_take, List.length_cons, List.length_nil, u8s_len, be_length]; omega) ?_ | fail)
    · exact absurd (by assumption) he
    · exact hk _ ((rcur_close (br := br) ‹_›).perm (List.Perm.swap _ _ _))
instance i_rnumber {o : Nat} {L1 L2 : List (Nat × Ent)} {cs us : List Value} {T : Nat} {z : Int} [h : At w0 F w L] [r1 : Rm L b (rcur c) L1] [r2 : Rm L1 bd (cells cs T) L2] [x : Nth cs o (.int .i64 z)] [y : Setn cs o (.int .i64 (c.num a z).2) us] :
    Step (Gv Try.prog F_record_cursor_number #[ptr b, .int .i64 a, .pointer (some ⟨bd, o, none⟩)] w K) (∀ w', At w0 F w' ((bd, cells us T) :: (b, rcur (c.num a z).1) :: L2) → K (ptr b) w') := ⟨fun hk => c_rnumber hk⟩
instance rc_e {KV : Value → Prop} [h : At w0 F w L] [r : Rm L b (rcur c) L'] : Step (rd Try.prog (Instr.loadAt Y_api_Errno (.pointer (some ⟨b, 2, none⟩))) w KV) (KV (.int .i64 c.e)) := ⟨fun hk => by
  obtain ⟨br, hA⟩ := rcur_open (h.perm r.perm)
  exact Step.out hk⟩
instance rc_at [h : At w0 F w L] [r : Rm L b (rcur c) L'] : Step (rd Try.prog (Instr.loadAt Y_p_octets_Reader (.pointer (some ⟨b, 1, none⟩))) w fun v => Gv Try.prog F_octets_Reader_At #[v] w K) (∀ w', At w0 F w' ((b, rcur c) :: L') → K (.int .i64 c.at') w') := ⟨fun hk => by
  obtain ⟨br, hA⟩ := rcur_open (h.perm r.perm)
  repeat' (first | refine Step.out ?_ | refine And.intro (fun h => ?_) (fun h => ?_) | intro _ | refine GW.i64 (by omega) ?_ | refine GW.u32 (by omega) ?_ | refine GW.u64 (by omega) ?_ | refine GW.u8 (by omega) ?_ | refine GW.u16 (by omega) ?_ | refine And.intro rfl ?_ | refine And.intro (by assumption) ?_ | refine And.intro (by omega) ?_ | refine And.intro (by simp only [List.length_append, List.length_replicate, List.length_drop, List.length_take, List.length_cons, List.length_nil, u8s_len, be_length]; omega) ?_ | fail)
  exact hk _ (rcur_close (br := br) (At.pk [b, br] ‹_›))⟩
instance [h : At w0 F w L] : Step (Gv Try.prog F_record_ReadQuestion #[str s, .int .i64 a] w K) (s.length ≤ 1099511627776 ∧ ∀ w', At w0 F w' L → K (.tuple #[qnV (qnRead s a).1, .int .i64 (qnRead s a).2.1, .int .i64 (qnRead s a).2.2]) w') := ⟨fun ⟨h1, hk⟩ => by
  refine ok_record_ReadQuestion ?_
  unfold T_record_ReadQuestion
  unfold qnRead at hk
  refine Step.out ?_
  intro bq w1 g1
  clear h
  haveI g2 : At w0 F w1 ((bq, cells (qnC Qn.zero) Y_api_Question) :: L) := g1
  clear g1
  repeat' (first | refine Step.out ?_ | refine And.intro (fun h => ?_) (fun h => ?_) | intro _ | refine GW.i64 (by omega) ?_ | refine GW.u32 (by omega) ?_ | refine GW.u64 (by omega) ?_ | refine GW.u8 (by omega) ?_ | refine GW.u16 (by omega) ?_ | refine And.intro rfl ?_ | refine And.intro (by assumption) ?_ | refine And.intro (by omega) ?_ | refine And.intro (by simp only [List.length_append, List.length_replicate, List.length_drop, List.length_take, List.length_cons, List.length_nil, u8s_len, be_length]; omega) ?_ | fail)
  · rw [if_pos (by assumption)] at hk; exact hk _ (At.sb ‹_›)
  · rw [if_neg (by assumption)] at hk; exact hk _ (At.sb ‹_›)⟩
theorem Rk.num_le {c : Rk} {n v : Int} (h : 0 ≤ v ∧ v ≤ 4294967295) : 0 ≤ (c.num n v).2 ∧ (c.num n v).2 ≤ 4294967295 := by
  unfold Rk.num
  split
  · exact h
  · have := Rr.num_le ⟨c.s, c.at'⟩ n
    simp only
    omega
theorem c_rRead (h1 : s.length ≤ 1048000) (h : At w0 F w L) (hk : ∀ v w', SlG v (rcRead s a).1.data.texts.length → At w0 F w' ((0, sl v (rcRead s a).1.data.texts.length (strs (rcRead s a).1.data.texts) 1) :: L) → K (.tuple #[rcV (rcRead s a).1 v, .int .i64 (rcRead s a).2.1, .int .i64 (rcRead s a).2.2]) w') :
    Gv Try.prog F_record_Read #[str s, .int .i64 a] w K := by
  refine ok_record_Read ?_
  unfold T_record_Read
  unfold rcRead at hk
  refine Step.out ?_
  intro bq w1 g1
  clear h
  haveI g2 : At w0 F w1 ((bq, cells (str [] :: .int .i64 0 :: .int .i64 0 :: .int .u32 (0 : Nat) :: daC Dat.zero (.slice none 0 0)) Y_api_Record) :: L) := g1
  clear g1
  simp only at hk
  have h4 := Rk.num_le (c := (((((rkAt s a).name []).1.has 10).num 2 0).1.num 2 0).1) (n := 4) (v := 0) (by omega)
  refine Step.out ?_
  intro bt w2 g3
  refine Step.out ?_
  intro bl w3 g4
  refine Step.out ⟨by omega, ?_⟩
  intro bc w4 g5
  repeat' (first | refine Step.out ?_ | refine And.intro (fun h => ?_) (fun h => ?_) | intro _ | refine GW.i64 (by omega) ?_ | refine GW.u32 (by omega) ?_ | refine GW.u64 (by omega) ?_ | refine GW.u8 (by omega) ?_ | refine GW.u16 (by omega) ?_ | refine And.intro rfl ?_ | refine And.intro (by assumption) ?_ | refine And.intro (by omega) ?_ | refine And.intro (by simp only [List.length_append, List.length_replicate, List.length_drop, List.length_take, List.length_cons, List.length_nil, u8s_len, be_length]; omega) ?_ | fail)
  all_goals
    clear g2 g3 g4 g5
    generalize hz4 : (((((rkAt s a).name []).1.has 10).num 2 0).1.num 2 0).1.num 4 0 = x4 at *
    generalize hz3 : ((((rkAt s a).name []).1.has 10).num 2 0).1.num 2 0 = x3 at *
    generalize hz2 : (((rkAt s a).name []).1.has 10).num 2 0 = x2 at *
    generalize hz1 : (rkAt s a).name [] = x1 at *
    have h5 := Rk.num_le (c := x4.1) (n := 2) (v := 0) (by omega)
    generalize hz5 : x4.1.num 2 0 = x5 at *
    generalize hz6 : x5.1.has x5.2 = c at *
    clear hz1 hz2 hz3 hz4 hz5 hz6
  · rw [if_pos (by assumption)] at hk
    exact hk _ _ ⟨.inl ⟨.inl rfl, rfl⟩⟩ (show At w0 F _ ((0, sl (.slice none 0 0) 0 [] 1) :: L) from At.sb (At.slNil ‹_› 1))
  rw [if_neg (by assumption)] at hk
  rename_i gz
  obtain ⟨c4, z4⟩ := x4
  obtain ⟨z4, rfl⟩ : ∃ n : Nat, z4 = n := ⟨z4.toNat, by simp only at h4; omega⟩
  simp only [Int.toNat_natCast] at hk
  obtain ⟨br, hA⟩ := rcur_open (At.pk [bc, bq, bt, bl] gz)
  have hb := (reader_open (hA.perm (List.Perm.swap _ _ _))).1
  have hb2 : c.at' ≤ c.s.length ∧ c.s.length ≤ 1099511627776 := hb
  clear gz
  repeat' (first | refine Step.out ?_ | refine And.intro (fun h => ?_) (fun h => ?_) | intro _ | refine GW.i64 (by omega) ?_ | refine GW.u32 (by omega) ?_ | refine GW.u64 (by omega) ?_ | refine GW.u8 (by omega) ?_ | refine GW.u16 (by omega) ?_ | refine And.intro rfl ?_ | refine And.intro (by assumption) ?_ | refine And.intro (by omega) ?_ | refine And.intro (by simp only [List.length_append, List.length_replicate, List.length_drop, List.length_take, List.length_cons, List.length_nil, u8s_len, be_length]; omega) ?_ | fail)
  · rw [if_pos (by assumption)] at hk
    exact hk _ _ ⟨.inl ⟨.inl rfl, rfl⟩⟩ (show At w0 F _ ((0, sl (.slice none 0 0) 0 [] 1) :: L) from At.sb (At.slNil ‹_› 1))
  · rw [if_neg (by assumption)] at hk
    exact hk _ _ ‹_› (At.sb ‹_›)
instance [h : At w0 F w L] : Step (Gv Try.prog F_record_Read #[str s, .int .i64 a] w K) (s.length ≤ 1048000 ∧ ∀ v w', SlG v (rcRead s a).1.data.texts.length → At w0 F w' ((0, sl v (rcRead s a).1.data.texts.length (strs (rcRead s a).1.data.texts) 1) :: L) → K (.tuple #[rcV (rcRead s a).1 v, .int .i64 (rcRead s a).2.1, .int .i64 (rcRead s a).2.2]) w') :=
  ⟨fun ⟨h1, hk⟩ => c_rRead h1 h hk⟩
end
end Go.Proofs.Ytkpinncakbnikaa
namespace Go.Proofs.Ytkpinncakbnikaa
open Go Np Go.Proofs
set_option linter.all false
set_option maxRecDepth 20000
section
variable {w0 w : World} {F : Fp} {L L' : List (Nat × Ent)} {K : Value → World → Prop} {n : Nat} {v : Value} {r : Rc}
instance (priority := high) [h : At w0 F w L] : Step (Gv Try.prog F_pack_New #[.int .i64 99] w K) (∀ b w', At w0 F w' ((b, packer pk99) :: L) → K (ptr b) w') := ⟨fun hk => Step.out fun b w' hA => hk b w' hA⟩
instance [h : At w0 F w L] : Step (Gv Try.prog F_nameplatelaw10_lives #[] w K) (∀ w', At w0 F w' L → K (.bool true) w') := ⟨fun hk => by
  obtain ⟨l1, l2⟩ := rLive_put
  have l3 := rLive_size
  have hok := rLive_ok
  refine ok_nameplatelaw10_lives ?_
  unfold T_nameplatelaw10_lives
  refine Step.out ?_
  refine Step.out ?_
  refine Step.out ?_
  refine Step.out ?_
  intro br w1 g1
  refine Step.out ⟨rfl, ?_⟩
  intro w2 g2
  haveI g3 : At w0 F w2 ((br, cells (rcC rLive (.slice none 0 0)) Y_api_Record) :: (0, sl (.slice none 0 0) 0 (strs rLive.data.texts) 1) :: L) := (At.slNil g2 1).perm (List.Perm.swap _ _ _)
  clear g1 g2 h
  repeat' (first | refine Step.out ?_ | refine And.intro (fun h => ?_) (fun h => ?_) | intro _ | refine GW.i64 (by omega) ?_ | refine GW.u32 (by omega) ?_ | refine GW.u64 (by omega) ?_ | refine GW.u8 (by omega) ?_ | refine GW.u16 (by omega) ?_ | refine And.intro rfl ?_ | refine And.intro (by assumption) ?_ | refine And.intro (by omega) ?_ | refine And.intro (by simp only [List.length_append, List.length_replicate, List.length_drop, List.length_take, List.length_cons, List.length_nil, u8s_len, be_length]; omega) ?_ | fail)
  · rw [show dec ((rcPut pk99 rLive).1.w.s = [1, 97, 1, 98, 0, 0, 1, 0, 1, 0, 0, 0, 5, 0, 4, 1, 2, 3, 4]) = true from dec_iff.2 l2]
    exact hk _ (At.sb ‹_›)
  · exact absurd l1 (by assumption)
  · exact absurd l3 (by assumption)⟩
instance [h : At w0 F w L] [hs : HasS L v n (strs r.data.texts) 1] : Step (Gv Try.prog F_nameplatelaw10_light #[rcV r v] w K) (OkR r ∧ ∀ w', At w0 F w' L → K (.bool (dec (r.name.length ≤ 400) && dec (lightN r.data ≤ 2000))) w') := ⟨fun ⟨hr, hk⟩ => by
  have hd := hr.data
  refine ok_nameplatelaw10_light ?_
  unfold T_nameplatelaw10_light
  repeat' (first | refine Step.out ?_ | refine And.intro (fun h => ?_) (fun h => ?_) | intro _ | refine GW.i64 (by omega) ?_ | refine GW.u32 (by omega) ?_ | refine GW.u64 (by omega) ?_ | refine GW.u8 (by omega) ?_ | refine GW.u16 (by omega) ?_ | refine And.intro rfl ?_ | refine And.intro (by assumption) ?_ | refine And.intro (by omega) ?_ | refine And.intro (by simp only [List.length_append, List.length_replicate, List.length_drop, List.length_take, List.length_cons, List.length_nil, u8s_len, be_length]; omega) ?_ | fail)
  · have h4 := ‹(_ : Int) ≤ 400›
    rw [show (dec (r.name.length ≤ 400)) = true from dec_iff.2 (by omega), Bool.true_and] at hk
    exact hk _ (At.sb ‹_›)
  · have h4 := ‹¬ (_ : Int) ≤ 400›
    rw [show (dec (r.name.length ≤ 400)) = false from by rw [dec_eq]; exact decide_eq_false (by omega), Bool.false_and] at hk
    exact hk _ (At.sb ‹_›)⟩
theorem law_Names (h : At w0 F w []) : Gv Try.prog F_nameplatelaw10_RecordNames #[] w fun x w' => x = .bool true ∧ At w0 F w' [] := by
  refine ok_nameplatelaw10_RecordNames ?_
  unfold T_nameplatelaw10_RecordNames
  have r1 := read1
  have r2 := read2
  have r3 := read3
  have r4 := read4
  have r5 := read5
  repeat' (first | refine Step.out ?_ | refine And.intro (fun h => ?_) (fun h => ?_) | intro _ | refine GW.i64 (by omega) ?_ | refine GW.u32 (by omega) ?_ | refine GW.u64 (by omega) ?_ | refine GW.u8 (by omega) ?_ | refine GW.u16 (by omega) ?_ | refine And.intro rfl ?_ | refine And.intro (by assumption) ?_ | refine And.intro (by omega) ?_ | refine And.intro (by simp only [List.length_append, List.length_replicate, List.length_drop, List.length_take, List.length_cons, List.length_nil, u8s_len, be_length]; omega) ?_ | fail)
  all_goals first | exact At.emp ‹_› | skip
  · refine (show Gv Try.prog F_record_Put #[.pointer none, rcV Rc.zero (.slice none 0 0)] _ _ from ?_)
    repeat' (first | refine Step.out ?_ | refine And.intro (fun h => ?_) (fun h => ?_) | intro _ | refine GW.i64 (by omega) ?_ | refine GW.u32 (by omega) ?_ | refine GW.u64 (by omega) ?_ | refine GW.u8 (by omega) ?_ | refine GW.u16 (by omega) ?_ | refine And.intro rfl ?_ | refine And.intro (by assumption) ?_ | refine And.intro (by omega) ?_ | refine And.intro (by simp only [List.length_append, List.length_replicate, List.length_drop, List.length_take, List.length_cons, List.length_nil, u8s_len, be_length]; omega) ?_ | fail)
    haveI hA1 : At w0 F _ ((0, sl (.slice none 0 0) 0 (strs (rTyp 65536).data.texts) 1) :: _) := At.slNil ‹_› 1
    refine (show Gv Try.prog F_record_Check #[rcV (rTyp 65536) (.slice none 0 0)] _ _ from ?_)
    refine Step.out ⟨rTyp_ok _, ?_⟩
    intro w1 g1
    rw [chk1]
    repeat' (first | refine Step.out ?_ | refine And.intro (fun h => ?_) (fun h => ?_) | intro _ | refine GW.i64 (by omega) ?_ | refine GW.u32 (by omega) ?_ | refine GW.u64 (by omega) ?_ | refine GW.u8 (by omega) ?_ | refine GW.u16 (by omega) ?_ | refine And.intro rfl ?_ | refine And.intro (by assumption) ?_ | refine And.intro (by omega) ?_ | refine And.intro (by simp only [List.length_append, List.length_replicate, List.length_drop, List.length_take, List.length_cons, List.length_nil, u8s_len, be_length]; omega) ?_ | fail)
    all_goals first | exact At.emp ‹_› | skip
    haveI hA2 : At w0 F w1 ((0, sl (.slice none 0 0) 0 (strs rNul.data.texts) 1) :: _) := g1
    refine (show Gv Try.prog F_record_Check #[rcV rNul (.slice none 0 0)] _ _ from ?_)
    refine Step.out ⟨rNul_ok, ?_⟩
    intro w2 g2
    rw [chk2]
    repeat' (first | refine Step.out ?_ | refine And.intro (fun h => ?_) (fun h => ?_) | intro _ | refine GW.i64 (by omega) ?_ | refine GW.u32 (by omega) ?_ | refine GW.u64 (by omega) ?_ | refine GW.u8 (by omega) ?_ | refine GW.u16 (by omega) ?_ | refine And.intro rfl ?_ | refine And.intro (by assumption) ?_ | refine And.intro (by omega) ?_ | refine And.intro (by simp only [List.length_append, List.length_replicate, List.length_drop, List.length_take, List.length_cons, List.length_nil, u8s_len, be_length]; omega) ?_ | fail)
    all_goals first | exact At.emp ‹_› | skip
    refine (show Gv Try.prog F_record_CheckQuestion #[qnV qNeg] _ _ from ?_)
    refine Step.out ⟨⟨by decide⟩, ?_⟩
    intro w3 g3
    rw [chk3]
    repeat' (first | refine Step.out ?_ | refine And.intro (fun h => ?_) (fun h => ?_) | intro _ | refine GW.i64 (by omega) ?_ | refine GW.u32 (by omega) ?_ | refine GW.u64 (by omega) ?_ | refine GW.u8 (by omega) ?_ | refine GW.u16 (by omega) ?_ | refine And.intro rfl ?_ | refine And.intro (by assumption) ?_ | refine And.intro (by omega) ?_ | refine And.intro (by simp only [List.length_append, List.length_replicate, List.length_drop, List.length_take, List.length_cons, List.length_nil, u8s_len, be_length]; omega) ?_ | fail)
    all_goals first | exact At.emp ‹_› | skip
    · rw [r4]
      refine (show Gv Try.prog F_record_SameQuestion #[qnV qLow, qnV qUp] _ _ from ?_)
      refine Step.out ?_
      intro w4 g4
      rw [show dec (qLow = qUp) = false from by rw [dec_eq]; decide]
      repeat' (first | refine Step.out ?_ | refine And.intro (fun h => ?_) (fun h => ?_) | intro _ | refine GW.i64 (by omega) ?_ | refine GW.u32 (by omega) ?_ | refine GW.u64 (by omega) ?_ | refine GW.u8 (by omega) ?_ | refine GW.u16 (by omega) ?_ | refine And.intro rfl ?_ | refine And.intro (by assumption) ?_ | refine And.intro (by omega) ?_ | refine And.intro (by simp only [List.length_append, List.length_replicate, List.length_drop, List.length_take, List.length_cons, List.length_nil, u8s_len, be_length]; omega) ?_ | fail)
      haveI hA5 : At w0 F w4 ((0, sl (.slice none 0 0) 0 (strs (rTyp (-1)).data.texts) 1) :: _) := At.slNil g4 1
      refine (show Gv Try.prog F_record_Size #[rcV (rTyp (-1)) (.slice none 0 0)] _ _ from ?_)
      refine Step.out ⟨rTyp_ok _, ?_⟩
      intro w6 g6
      rw [chk4]
      repeat' (first | refine Step.out ?_ | refine And.intro (fun h => ?_) (fun h => ?_) | intro _ | refine GW.i64 (by omega) ?_ | refine GW.u32 (by omega) ?_ | refine GW.u64 (by omega) ?_ | refine GW.u8 (by omega) ?_ | refine GW.u16 (by omega) ?_ | refine And.intro rfl ?_ | refine And.intro (by assumption) ?_ | refine And.intro (by omega) ?_ | refine And.intro (by simp only [List.length_append, List.length_replicate, List.length_drop, List.length_take, List.length_cons, List.length_nil, u8s_len, be_length]; omega) ?_ | fail)
      exact ⟨by rw [dec_eq]; rfl, At.emp ‹_›⟩
    · exact absurd rfl ‹¬ (qnRead _ _).1 = (qnRead _ _).1›
  all_goals
    first
    | (rename_i hx; exfalso; revert hx; rw [r4]; simp [dec_eq, qLow]; done)
    | (have h5 := congrArg (fun z => z.2.2) r4; simp only at h5; exfalso; first | exact absurd h5 (by assumption) | exact absurd rfl (by assumption) | omega)
    | (exfalso; refine absurd ?_ ‹¬ (_ ∧ _)›; rw [r4]; exact ⟨rfl, rfl, rfl⟩)
end
end Go.Proofs.Ytkpinncakbnikaa
namespace Go.Proofs.Ytkpinncakbnikaa
open Go Np Go.Proofs
set_option linter.all false
set_option maxRecDepth 20000
instance : Inhabited Qn := ⟨Qn.zero⟩
noncomputable instance : Inhabited Rc := ⟨Rc.zero⟩
abbrev rcP (p : Rc × Value) : List Value := rcC p.1 p.2
instance : RowF qnC 3 := ⟨fun _ => rfl⟩
instance : RowF rcP 16 := ⟨fun _ => rfl⟩
def tx (l : List (Rc × Value)) : List (Nat × Ent) := l.map fun p => (0, sl p.2 p.1.data.texts.length (strs p.1.data.texts) 1)
theorem tx_has {l : List (Rc × Value)} {p : Rc × Value} (h : p ∈ l) : HasS (tx l) p.2 p.1.data.texts.length (strs p.1.data.texts) 1 := ⟨0, List.mem_map.2 ⟨p, h, rfl⟩⟩
section
variable {w0 w : World} {F : Fp} {L L' : List (Nat × Ent)} {K : Value → World → Prop} {n m : Nat} {v u : Value} {ql : List Qn} {rl : List (Rc × Value)}
theorem At.ko {n E size : Nat} {xs : List Value} (h : At w0 F w L) (v : Value) (k : Nat) [r : RmV L v n xs E size L'] : At w0 F w ((k, own v n xs E size) :: L') := let ⟨_, hp⟩ := r.perm; (h.perm hp).okey k
theorem At.frz {n E size : Nat} {xs : List Value} (h : At w0 F w L) (v : Value) (k : Nat) [r : RmV L v n xs E size L'] : At w0 F w ((k, sl v n xs size) :: L') := (At.ko h v k).freeze
theorem ints_get {l : List Nat} {i : Nat} (h : i < l.length) : (ints l).getD i undef = .int .i64 (l.getD i 0 : Nat) := by simp [ints, h]
theorem law_RBack (hq : ∀ q ∈ ql, OkQ q) (hr : ∀ p ∈ rl, OkR p.1) (h : At w0 F w ((0, sl v ql.length (rows qnC ql) 3) :: (1, sl u rl.length (rows rcP rl) 16) :: tx rl)) :
    Gv Try.prog F_nameplatelaw10_RecordBack #[v, u] w fun x w' => x = .bool true ∧ At w0 F w' [] := by
  have hsl : SlG v ql.length := h.slG inferInstance
  have hsl2 : SlG u rl.length := h.slG inferInstance
  refine ok_nameplatelaw10_RecordBack ?_
  unfold T_nameplatelaw10_RecordBack
  repeat' (first | refine Step.out ?_ | refine And.intro (fun h => ?_) (fun h => ?_) | intro _ | refine GW.i64 (by omega) ?_ | refine GW.u32 (by omega) ?_ | refine GW.u64 (by omega) ?_ | refine GW.u8 (by omega) ?_ | refine GW.u16 (by omega) ?_ | refine And.intro rfl ?_ | refine And.intro (by assumption) ?_ | refine And.intro (by omega) ?_ | refine And.intro (by simp only [List.length_append, List.length_replicate, List.length_drop, List.length_take, List.length_cons, List.length_nil, u8s_len, be_length]; omega) ?_ | fail)
  rename_i w1 g1
  clear h
  refine cutL (fun s w => ∃ q : Bool, (q = false → ql.length ≤ 20 ∧ rl.length ≤ 20) ∧ s = [v, u, .bool q] ∧ At w0 F w ((0, sl v ql.length (rows qnC ql) 3) :: (1, sl u rl.length (rows rcP rl) 16) :: tx rl)) ?_ ?_
  · repeat' (first | refine Step.out ?_ | refine And.intro (fun h => ?_) (fun h => ?_) | intro _ | refine GW.i64 (by omega) ?_ | refine GW.u32 (by omega) ?_ | refine GW.u64 (by omega) ?_ | refine GW.u8 (by omega) ?_ | refine GW.u16 (by omega) ?_ | refine And.intro rfl ?_ | refine And.intro (by assumption) ?_ | refine And.intro (by omega) ?_ | refine And.intro (by simp only [List.length_append, List.length_replicate, List.length_drop, List.length_take, List.length_cons, List.length_nil, u8s_len, be_length]; omega) ?_ | fail)
    · exact ⟨_, (fun h => by cases h), rfl, ‹_›⟩
    · refine ⟨_, (fun h => ?_), rfl, ‹_›⟩
      rw [dec_eq] at h
      simp at h
      omega
  rintro ρ w ⟨q1, hq1, hs, hA⟩
  clear g1
  simp only [pick, List.cons.injEq, and_true] at hs
  obtain ⟨h0, h1, h2⟩ := hs
  simp only [h0, h1, h2]
  cases q1 with
  | true =>
    repeat' (first | refine Step.out ?_ | refine And.intro (fun h => ?_) (fun h => ?_) | intro _ | refine GW.i64 (by omega) ?_ | refine GW.u32 (by omega) ?_ | refine GW.u64 (by omega) ?_ | refine GW.u8 (by omega) ?_ | refine GW.u16 (by omega) ?_ | refine And.intro rfl ?_ | refine And.intro (by assumption) ?_ | refine And.intro (by omega) ?_ | refine And.intro (by simp only [List.length_append, List.length_replicate, List.length_drop, List.length_take, List.length_cons, List.length_nil, u8s_len, be_length]; omega) ?_ | fail)
    exact ⟨trivial, At.emp hA⟩
  | false =>
  obtain ⟨hn1, hn2⟩ := hq1 rfl
  clear hq1
  repeat' (first | refine Step.out ?_ | refine And.intro (fun h => ?_) (fun h => ?_) | intro _ | refine GW.i64 (by omega) ?_ | refine GW.u32 (by omega) ?_ | refine GW.u64 (by omega) ?_ | refine GW.u8 (by omega) ?_ | refine GW.u16 (by omega) ?_ | refine And.intro rfl ?_ | refine And.intro (by assumption) ?_ | refine And.intro (by omega) ?_ | refine And.intro (by simp only [List.length_append, List.length_replicate, List.length_drop, List.length_take, List.length_cons, List.length_nil, u8s_len, be_length]; omega) ?_ | fail)
  rename_i b w1 g1
  clear hA
  have g2 := At.pk [b, 2, 3, 0, 1] (At.okey (At.ownNil (At.okey (At.ownNil g1 Y_int 1) 3) Y_api_Question 3) 2)
  clear g1
  refine loopN (fun k s w => ∃ (i : Nat) (p : Pk) (qs : List Qn) (ends : List Nat) (qv ev : Value), i + k = ql.length ∧ PutX p (qs.map .ofQ) ends ∧ qs.length ≤ i ∧ p.w.s.length ≤ i * 259 ∧ (∀ q ∈ qs, OkQ q ∧ qnChk q = 0) ∧
    s = [v, u, ptr b, ev, qv, .slice none 0 0, .int .i64 i] ∧
    At w0 F w ((b, packer p) :: (2, own qv qs.length (rows qnC qs) Y_api_Question 3) :: (3, own ev ends.length (ints ends) Y_int 1) :: (0, sl v ql.length (rows qnC ql) 3) :: (1, sl u rl.length (rows rcP rl) 16) :: tx rl)) ql.length
    ⟨0, pk0, [], [], _, _, by omega, PutX.zero, by simp, by rw [pk0_len]; simp, (fun q h => by cases h), rfl, g2⟩ ?_
  clear g2
  rintro k ρ w ⟨i, p, qs, ends, qv, ev, hi, hp, hqi, hpl, hqs, hs, hA⟩
  simp only [pick, List.cons.injEq, and_true] at hs
  obtain ⟨h0, h1, h2, h3, h4, h5, h6⟩ := hs
  simp only [h0, h1, h2, h3, h4, h5, h6]
  have hel : ends.length = qs.length := by have := hp.len; simpa using this
  have hsv : SlV qv qs.length := own_slv (At.owns hA inferInstance)
  have hoq : i < ql.length → OkQ (ql.getD (i : Int).toNat default) := fun h => by
    rw [Int.toNat_natCast]
    have e : ql.getD i default = ql[i] := by simp [List.getD_eq_getElem?_getD, List.getElem?_eq_getElem h]
    rw [e]
    exact hq _ (List.getElem_mem _)
  repeat' (first | refine Step.out ?_ | refine And.intro (fun h => ?_) (fun h => ?_) | intro _ | refine GW.i64 (by omega) ?_ | refine GW.u32 (by omega) ?_ | refine GW.u64 (by omega) ?_ | refine GW.u8 (by omega) ?_ | refine GW.u16 (by omega) ?_ | refine And.intro rfl ?_ | refine And.intro (by assumption) ?_ | refine And.intro (by omega) ?_ | refine And.intro (by simp only [List.length_append, List.length_replicate, List.length_drop, List.length_take, List.length_cons, List.length_nil, u8s_len, be_length]; omega) ?_ | fail)
  · exact ⟨trivial, At.emp ‹_›⟩
  · have hoq := hoq (by omega)
    generalize hqe : ql.getD (i : Int).toNat default = q at *
    repeat' (first | refine Step.out ?_ | refine And.intro (fun h => ?_) (fun h => ?_) | intro _ | refine GW.i64 (by omega) ?_ | refine GW.u32 (by omega) ?_ | refine GW.u64 (by omega) ?_ | refine GW.u8 (by omega) ?_ | refine GW.u16 (by omega) ?_ | refine And.intro rfl ?_ | refine And.intro (by assumption) ?_ | refine And.intro (by omega) ?_ | refine And.intro (by simp only [List.length_append, List.length_replicate, List.length_drop, List.length_take, List.length_cons, List.length_nil, u8s_len, be_length]; omega) ?_ | fail)
    · have h0 := ‹(qnPut p q).2 = 0›
      have hc : qnChk q = 0 := Decidable.by_contra fun hc => by
        unfold qnPut at h0
        rw [if_pos hc] at h0
        exact hc h0
      obtain ⟨g1, g2, g3⟩ := hp.q hc (by omega)
      rename_i y1 gy1 hh b1 y2 gy2 qv' y3 sq gy3 y4 gy4 b2 y5 gy5 ev' y6 se hz3
      rw [hqe] at hz3
      have hz4 := At.pk [b, 2, 3, 0, 1] (At.dk [b1, b2] (At.ko (At.ko hz3 qv' 2) ev' 3))
      refine ⟨k - 1, by omega, i + 1, (qnPut p q).1, qs ++ [q], ends ++ [(qnPut p q).1.w.s.length], _, _, by omega, by simpa using g2, by simp; omega, by omega, ?_, rfl, ?_⟩
      · intro q' hq'
        rcases List.mem_append.1 hq' with hq' | hq'
        · exact hqs q' hq'
        · simp at hq'; subst hq'; exact ⟨hoq, hc⟩
      · rw [show rows qnC (qs ++ [q]) = rows qnC qs ++ qnC q from by simp [rows], show ints (ends ++ [(qnPut p q).1.w.s.length]) = ints ends ++ [.int .i64 ((qnPut p q).1.w.s.length : Nat)] from by simp [ints], List.length_append, List.length_append]
        exact hz4
    · have hne := ‹¬ (qnPut p q).2 = 0›
      have hc : qnChk q ≠ 0 := fun hc => hne (hp.q hc (by omega)).1
      have he : (qnPut p q).1 = p := by unfold qnPut; rw [if_pos hc]
      have hz := ‹At w0 F _ ((b, packer (qnPut p q).1) :: _)›
      rw [he] at hz
      exact ⟨k - 1, by omega, i + 1, p, qs, ends, qv, ev, by omega, hp, by omega, by omega, hqs, rfl, hz⟩
  have hik : i = ql.length := by omega
  clear hq hoq
  have g2 := At.pk [b, 2, 3, 4, 1] (At.dk [0] (At.okey (At.ownNil hA Y_api_Record 16) 4))
  clear hA
  refine loopN (fun k s w => ∃ (i : Nat) (p : Pk) (rs : List (Rc × Value)) (es : List Nat) (rv ev : Value), i + k = rl.length ∧ PutX p (qs.map .ofQ ++ rs.map fun x => X.ofR x.1) es ∧ rs.length ≤ i ∧ p.w.s.length ≤ 20 * 259 + i * 2303 ∧ (∀ x ∈ rs, x ∈ rl ∧ rcChk x.1 = 0) ∧
    s = [u, ptr b, ev, qv, rv, .int .i64 i] ∧
    At w0 F w ((b, packer p) :: (2, own qv qs.length (rows qnC qs) Y_api_Question 3) :: (3, own ev es.length (ints es) Y_int 1) :: (4, own rv rs.length (rows rcP rs) Y_api_Record 16) :: (1, sl u rl.length (rows rcP rl) 16) :: tx rl)) rl.length
    ⟨0, p, [], ends, _, ev, by omega, by simpa using hp, by simp, by omega, (fun q h => by cases h), rfl, g2⟩ ?_
  have hqn : qs.length ≤ 20 := by omega
  clear g2 hp hqi hpl hel hsv hi hik
  rintro k ρ w ⟨i, p, rs, es, rv, ev, hi, hp, hri, hpl, hrs, hs, hA⟩
  simp only [pick, List.cons.injEq, and_true] at hs
  obtain ⟨h0, h1, h2, h3, h4, h5⟩ := hs
  simp only [h0, h1, h2, h3, h4, h5]
  have hel : es.length = qs.length + rs.length := by have := hp.len; simpa using this
  have hsv : SlV qv qs.length := own_slv (At.owns hA inferInstance)
  have hsr : SlV rv rs.length := own_slv (At.owns hA inferInstance)
  have hox : i < rl.length → OkR (rl.getD (i : Int).toNat default).1 ∧ rl.getD (i : Int).toNat default ∈ rl := fun h => by
    rw [Int.toNat_natCast]
    have e : rl.getD i default = rl[i] := by simp [List.getD_eq_getElem?_getD, List.getElem?_eq_getElem h]
    rw [e]
    exact ⟨hr _ (List.getElem_mem _), List.getElem_mem _⟩
  repeat' (first | refine Step.out ?_ | refine And.intro (fun h => ?_) (fun h => ?_) | intro _ | refine GW.i64 (by omega) ?_ | refine GW.u32 (by omega) ?_ | refine GW.u64 (by omega) ?_ | refine GW.u8 (by omega) ?_ | refine GW.u16 (by omega) ?_ | refine And.intro rfl ?_ | refine And.intro (by assumption) ?_ | refine And.intro (by omega) ?_ | refine And.intro (by simp only [List.length_append, List.length_replicate, List.length_drop, List.length_take, List.length_cons, List.length_nil, u8s_len, be_length]; omega) ?_ | fail)
  · obtain ⟨hox1, hox2⟩ := hox (by omega)
    clear hox
    haveI htx := tx_has hox2
    haveI hsx := At.slG hA (inferInstance : HasS _ (rl.getD (i : Int).toNat default).2 _ _ 1)
    have key : lightN (rl.getD (i : Int).toNat default).1.data ≤ 2000 → (rcPut p (rl.getD (i : Int).toNat default).1).2 = 0 → rcChk (rl.getD (i : Int).toNat default).1 = 0 := fun _ h0 => Decidable.by_contra fun hc => by
      unfold rcPut at h0
      rw [if_pos hc] at h0
      exact hc h0
    have key2 := fun hc hw => hp.r hox1 hc hw (by omega)
    repeat' (first | refine Step.out ?_ | refine And.intro (fun h => ?_) (fun h => ?_) | intro _ | refine GW.i64 (by omega) ?_ | refine GW.u32 (by omega) ?_ | refine GW.u64 (by omega) ?_ | refine GW.u8 (by omega) ?_ | refine GW.u16 (by omega) ?_ | refine And.intro rfl ?_ | refine And.intro (by assumption) ?_ | refine And.intro (by omega) ?_ | refine And.intro (by simp only [List.length_append, List.length_replicate, List.length_drop, List.length_take, List.length_cons, List.length_nil, u8s_len, be_length]; omega) ?_ | fail)
    all_goals generalize hxe : rl.getD (i : Int).toNat default = x at *
    · exact ⟨trivial, At.emp ‹_›⟩
    · exact At.emp ‹_›
    · rename_i b1 _ rv' _ _ _ b2 _ ev' _ _ _ _ _ _ _ hl _ h0' _ _ _ _ _ _ _ hz
      have hl2 := (Decidable.not_not.1 hl).2
      have hc := key hl2 h0'
      obtain ⟨g1, g2, g3, g4⟩ := key2 hc hl2
      have hz4 := At.pk [b, 2, 3, 4, 1] (At.dk [b1, b2] (At.ko (At.ko hz rv' 4) ev' 3))
      refine ⟨k - 1, by omega, i + 1, (rcPut p x.1).1, rs ++ [x], es ++ [(rcPut p x.1).1.w.s.length], rv', ev', by omega, by simpa using g2, by simp; omega, by omega, ?_, rfl, ?_⟩
      · intro q' hq'
        rcases List.mem_append.1 hq' with hq' | hq'
        · exact hrs q' hq'
        · simp at hq'; subst hq'; exact ⟨hox2, hc⟩
      · rw [show rows rcP (rs ++ [x]) = rows rcP rs ++ rcP x from by simp [rows], show ints (es ++ [(rcPut p x.1).1.w.s.length]) = ints es ++ [.int .i64 ((rcPut p x.1).1.w.s.length : Nat)] from by simp [ints], List.length_append, List.length_append]
        exact hz4
    · have hne := ‹¬ (rcPut p x.1).2 = 0›
      have hl2 := (Decidable.not_not.1 ‹¬ ¬ (_ ∧ _)›).2
      have hc : rcChk x.1 ≠ 0 := fun hc => hne (key2 hc hl2).1
      have he : (rcPut p x.1).1 = p := by unfold rcPut; rw [if_pos hc]
      have hz := ‹At w0 F _ ((b, packer (rcPut p x.1).1) :: _)›
      rw [he] at hz
      exact ⟨k - 1, by omega, i + 1, p, rs, es, rv, ev, by omega, hp, by omega, by omega, hrs, rfl, At.pk [b, 2, 3, 4, 1] hz⟩
  have hz := ‹At w0 F _ ((b, packer p) :: _)›
  have g2 := At.dk [1] (At.dk [b] (At.pk [b, 2, 3, 4, 1] (At.frz (At.frz (At.frz hz qv 2) ev 3) rv 4)))
  have hlen := hp.short
  clear hA hz
  refine loopN (fun k s w => ∃ j : Nat, j + k = qs.length ∧ s = [ev, qv, rv, str p.w.s, .int .i64 ((0 :: es).getD j 0 : Nat), .int .i64 j] ∧
    At w0 F w ((2, sl qv qs.length (rows qnC qs) 3) :: (3, sl ev es.length (ints es) 1) :: (4, sl rv rs.length (rows rcP rs) 16) :: tx rl)) qs.length
    ⟨0, by omega, rfl, g2⟩ ?_
  clear g2
  rintro k ρ w ⟨j, hj, hs, hA⟩
  simp only [pick, List.cons.injEq, and_true] at hs
  obtain ⟨h0, h1, h2, h3, h4, h5⟩ := hs
  simp only [h0, h1, h2, h3, h4, h5]
  have hread : j < qs.length → qnRead p.w.s ((0 :: es).getD j 0 : Nat) = (qs.getD j default, ((es.getD j 0 : Nat) : Int), 0) := fun h => by
    have e1 : qs.getD j default = qs[j] := by simp [List.getD_eq_getElem?_getD, List.getElem?_eq_getElem h]
    have e2 : es[j]? = some (es.getD j 0) := by simp [List.getD_eq_getElem?_getD, List.getElem?_eq_getElem (show j < es.length by omega)]
    refine hp.readQ (i := j) ?_ e2 ?_
    · rw [List.getElem?_append_left (by simpa using h), e1]
      simp [List.getElem?_eq_getElem h]
    · rw [e1]; exact (hqs _ (List.getElem_mem _)).2
  repeat' (first | refine Step.out ?_ | refine And.intro (fun h => ?_) (fun h => ?_) | intro _ | refine GW.i64 (by omega) ?_ | refine GW.u32 (by omega) ?_ | refine GW.u64 (by omega) ?_ | refine GW.u8 (by omega) ?_ | refine GW.u16 (by omega) ?_ | refine And.intro rfl ?_ | refine And.intro (by assumption) ?_ | refine And.intro (by omega) ?_ | refine And.intro (by simp only [List.length_append, List.length_replicate, List.length_drop, List.length_take, List.length_cons, List.length_nil, u8s_len, be_length]; omega) ?_ | fail)
  · exact absurd (congrArg (fun z => z.2.2) (hread (by omega))) ‹¬ (qnRead _ _).2.2 = 0›
  · refine absurd ?_ ‹¬ (_ ∧ _)›
    rw [hread (by omega), Int.toNat_natCast]
    exact ⟨rfl, rfl, rfl⟩
  · rw [hread (by omega), ints_get (by omega)]
    repeat' (first | refine Step.out ?_ | refine And.intro (fun h => ?_) (fun h => ?_) | intro _ | refine GW.i64 (by omega) ?_ | refine GW.u32 (by omega) ?_ | refine GW.u64 (by omega) ?_ | refine GW.u8 (by omega) ?_ | refine GW.u16 (by omega) ?_ | refine And.intro rfl ?_ | refine And.intro (by assumption) ?_ | refine And.intro (by omega) ?_ | refine And.intro (by simp only [List.length_append, List.length_replicate, List.length_drop, List.length_take, List.length_cons, List.length_nil, u8s_len, be_length]; omega) ?_ | fail)
    · rw [Int.toNat_natCast] at *
      exact absurd rfl (by assumption)
    · refine ⟨k - 1, by omega, j + 1, by omega, ?_, At.sb ‹_›⟩
      simp only [List.getD_eq_getElem?_getD, List.getElem?_cons_succ]
      simp
  have hjq : j = qs.length := by omega
  subst hjq
  clear hread hj
  refine loopN (fun k s w => ∃ j : Nat, j + k = rs.length ∧ s = [ev, qv, rv, str p.w.s, .int .i64 ((0 :: es).getD (qs.length + j) 0 : Nat), .int .i64 j] ∧
    At w0 F w ((2, sl qv qs.length (rows qnC qs) 3) :: (3, sl ev es.length (ints es) 1) :: (4, sl rv rs.length (rows rcP rs) 16) :: tx rl)) rs.length
    ⟨0, by omega, rfl, hA⟩ ?_
  clear hA
  rintro k ρ w ⟨j, hj, hs, hA⟩
  simp only [pick, List.cons.injEq, and_true] at hs
  obtain ⟨h0, h1, h2, h3, h4, h5⟩ := hs
  simp only [h0, h1, h2, h3, h4, h5]
  have hrm : j < rs.length → rs.getD (j : Int).toNat default ∈ rl ∧ rcChk (rs.getD (j : Int).toNat default).1 = 0 := fun h => by
    rw [Int.toNat_natCast]
    have e1 : rs.getD j default = rs[j] := by simp [List.getD_eq_getElem?_getD, List.getElem?_eq_getElem h]
    rw [e1]; exact hrs _ (List.getElem_mem _)
  have hread : j < rs.length → rcRead p.w.s ((0 :: es).getD (qs.length + j) 0 : Nat) = ((rs.getD (j : Int).toNat default).1, ((es.getD (qs.length + j) 0 : Nat) : Int), 0) := fun h => by
    have e2 : es[qs.length + j]? = some (es.getD (qs.length + j) 0) := by simp [List.getD_eq_getElem?_getD, List.getElem?_eq_getElem (show qs.length + j < es.length by omega)]
    refine hp.readR (i := qs.length + j) ?_ e2 (hr _ (hrm h).1) (hrm h).2
    rw [Int.toNat_natCast, List.getElem?_append_right (by simp)]
    simp [List.getD_eq_getElem?_getD, List.getElem?_eq_getElem h]
  by_cases hjl : j < rs.length
  · haveI htx := tx_has (hrm hjl).1
    haveI hsx := At.slG hA (inferInstance : HasS _ (rs.getD (j : Int).toNat default).2 _ _ 1)
    have htl : (rcRead p.w.s ((0 :: es).getD (qs.length + j) 0 : Nat)).1.data.texts.length ≤ 1099511627776 := by
      rw [hread hjl]
      have := (hr _ (hrm hjl).1).data.texts
      simp only
      omega
    repeat' (first | refine Step.out ?_ | refine And.intro (fun h => ?_) (fun h => ?_) | intro _ | refine GW.i64 (by omega) ?_ | refine GW.u32 (by omega) ?_ | refine GW.u64 (by omega) ?_ | refine GW.u8 (by omega) ?_ | refine GW.u16 (by omega) ?_ | refine And.intro rfl ?_ | refine And.intro (by assumption) ?_ | refine And.intro (by omega) ?_ | refine And.intro (by simp only [List.length_append, List.length_replicate, List.length_drop, List.length_take, List.length_cons, List.length_nil, u8s_len, be_length]; omega) ?_ | fail)
    · exact absurd (congrArg (fun z => z.2.2) (hread (by omega))) ‹¬ (rcRead _ _).2.2 = 0›
    · refine absurd ?_ ‹¬ _ = true›
      refine (‹_ = true ↔ (rcRead _ _).1 = _›).2 ?_
      rw [hread hjl]
    · rw [hread hjl, show ((qs.length : Int) + (j : Int)).toNat = qs.length + j by omega, ints_get (by omega)]
      repeat' (first | refine Step.out ?_ | refine And.intro (fun h => ?_) (fun h => ?_) | intro _ | refine GW.i64 (by omega) ?_ | refine GW.u32 (by omega) ?_ | refine GW.u64 (by omega) ?_ | refine GW.u8 (by omega) ?_ | refine GW.u16 (by omega) ?_ | refine And.intro rfl ?_ | refine And.intro (by assumption) ?_ | refine And.intro (by omega) ?_ | refine And.intro (by simp only [List.length_append, List.length_replicate, List.length_drop, List.length_take, List.length_cons, List.length_nil, u8s_len, be_length]; omega) ?_ | fail)
      · exact absurd rfl (by assumption)
      · refine ⟨k - 1, by omega, j + 1, by omega, ?_, At.sb ‹_›⟩
        simp only [List.getD_eq_getElem?_getD, ← Nat.add_assoc, List.getElem?_cons_succ]
        simp
    · exact At.emp ‹_›
  · repeat' (first | refine Step.out ?_ | refine And.intro (fun h => ?_) (fun h => ?_) | intro _ | refine GW.i64 (by omega) ?_ | refine GW.u32 (by omega) ?_ | refine GW.u64 (by omega) ?_ | refine GW.u8 (by omega) ?_ | refine GW.u16 (by omega) ?_ | refine And.intro rfl ?_ | refine And.intro (by assumption) ?_ | refine And.intro (by omega) ?_ | refine And.intro (by simp only [List.length_append, List.length_replicate, List.length_drop, List.length_take, List.length_cons, List.length_nil, u8s_len, be_length]; omega) ?_ | fail)
    all_goals first | (exfalso; omega) | skip
    refine ⟨?_, At.emp ‹_›⟩
    have hl := hp.last
    have e : qs.length + j = es.length := by omega
    rw [e, ← hl, dec_eq]
    simp
end
end Go.Proofs.Ytkpinncakbnikaa
namespace Go.Proofs.Ytkpinncakbnikaa
open Go Np Go.Proofs Go.ChangeShapes Go.WideShapes Go.ChangeAt Go.RowKit Go.Deep
set_option linter.all false
set_option maxRecDepth 20000
theorem opn_qn : Opn Y_api_Question qnC (fun _ _ => True) (fun q => q.name.length) := by
  intro H enc w base sp held fuel cs x hx
  obtain ⟨hl, m0, y0, f0, b0⟩ := opn_field (i := 0) (ft := FT Y_api_Question 0) (off := 0) (n := 1) (by kernel_rfl) hx
  obtain ⟨_, m1, y1, f1, b1⟩ := opn_field (i := 1) (ft := FT Y_api_Question 1) (off := 1) (n := 1) (by kernel_rfl) hx
  obtain ⟨_, m2, y2, f2, b2⟩ := opn_field (i := 2) (ft := FT Y_api_Question 2) (off := 2) (n := 1) (by kernel_rfl) hx
  have hl3 : cs.length = 3 := hl.trans (show Try.prog.cellsOf Y_api_Question = 3 by kernel_rfl)
  match cs, hl3 with
  | [c0, c1, c2], _ =>
  obtain ⟨n, e0, u0⟩ := opn_str (h := ⟨by kernel_rfl⟩) f0
  obtain ⟨t, e1, _⟩ := opn_int (k := .i64) (h := ⟨by kernel_rfl⟩) f1
  obtain ⟨c, e2, _⟩ := opn_int (k := .i64) (h := ⟨by kernel_rfl⟩) f2
  simp only [List.drop_succ_cons, List.drop_zero, List.take_succ_cons, List.take_zero, List.cons.injEq, and_true] at e0 e1 e2
  subst e0 e1 e2
  exact ⟨⟨n, t, c⟩, rfl, trivial, by simp only; omega⟩
theorem list16 {α : Type} {l : List α} (h : l.length = 16) : ∃ a0 a1 a2 a3 m, l = a0 :: a1 :: a2 :: a3 :: m := by
  match l, h with
  | [a0, a1, a2, a3, a4, a5, a6, a7, a8, a9, a10, a11, a12, a13, a14, a15], _ => exact ⟨_, _, _, _, _, rfl⟩
theorem opn_rc : Opn Y_api_Record rcP (fun w p => SlOk w p.2 p.1.data.texts.length (strs p.1.data.texts) 1 ∧ OkN p.1.data ∧ p.1.ttl ≤ 4294967295) (fun p => max p.1.name.length (dMax p.1.data)) := by
  intro H enc w base sp held fuel cs x hx
  obtain ⟨hl, m0, y0, f0, b0⟩ := opn_field (i := 0) (ft := FT Y_api_Record 0) (off := 0) (n := 1) (by kernel_rfl) hx
  obtain ⟨_, m1, y1, f1, b1⟩ := opn_field (i := 1) (ft := FT Y_api_Record 1) (off := 1) (n := 1) (by kernel_rfl) hx
  obtain ⟨_, m2, y2, f2, b2⟩ := opn_field (i := 2) (ft := FT Y_api_Record 2) (off := 2) (n := 1) (by kernel_rfl) hx
  obtain ⟨_, m3, y3, f3, b3⟩ := opn_field (i := 3) (ft := FT Y_api_Record 3) (off := 3) (n := 1) (by kernel_rfl) hx
  obtain ⟨_, m4, y4, f4, b4⟩ := opn_field (i := 4) (ft := Y_api_Data) (off := 4) (n := 12) (by kernel_rfl) hx
  have hl16 : cs.length = 16 := hl.trans (show Try.prog.cellsOf Y_api_Record = 16 by kernel_rfl)
  obtain ⟨c0, c1, c2, c3, r, rfl⟩ := list16 hl16
  obtain ⟨n, e0, u0⟩ := opn_str (h := ⟨by kernel_rfl⟩) f0
  obtain ⟨t, e1, _⟩ := opn_int (k := .i64) (h := ⟨by kernel_rfl⟩) f1
  obtain ⟨c, e2, _⟩ := opn_int (k := .i64) (h := ⟨by kernel_rfl⟩) f2
  obtain ⟨l, e3, u3⟩ := opn_nat (k := .u32) (h := ⟨by kernel_rfl⟩) rfl f3
  obtain ⟨⟨d, v⟩, e4, ⟨h4, h5⟩, u4⟩ := opn_data f4
  simp only [List.length_cons] at hl16
  rw [List.take_of_length_le (by simp only [List.drop_succ_cons, List.drop_zero]; omega)] at e4
  simp only [List.drop_succ_cons, List.drop_zero, List.take_succ_cons, List.take_zero, List.cons.injEq, and_true] at e0 e1 e2 e3 e4
  subst e0 e1 e2 e3 e4
  have m32 : IntKind.u32.max = 4294967295 := rfl
  exact ⟨(⟨n, t, c, l, d⟩, v), rfl, ⟨h4, h5, by simp only; omega⟩, by simp only at u4 ⊢; omega⟩
section
variable {H : Type} {enc : TypeId × Value → H} {w : World} {base : Nat} {sp : Nat → Bool} {held : Bool}
theorem arg_rows {r : Reach} {b0 t e size : Nat} {α : Type} {f : α → List Value} {Q : World → α → Prop} {β : α → Nat} {v : Value} {d : DataW H} {p : List MemPlace} (ht : Try.prog.underlying t = some (.slice e)) (hz : Try.prog.cellsOf e = size) (hp : 0 < size) (hf : RowF f size) (ho : Opn e f Q β)
    (hv : Value.okWide Try.prog w r b0 t v) (h : DataW.Trod enc Try.prog w base sp held t v d p) : ∃ l : List α, SlOk w v l.length (rows f l) size ∧ (∀ a ∈ l, Q w a ∧ β a + 1 ≤ Rows.uptoBulk d) ∧ l.length + 1 ≤ Rows.uptoBulk d := by
  obtain ⟨a, n, c, rfl⟩ := okWide_slice ht hv
  obtain ⟨fuel, hf'⟩ := h
  obtain ⟨v, l, h1, h2, h3, h4, h5⟩ := opn_rows ht hz hp hf ho hf'
  simp [Value.cells] at h1
  subst h1
  exact ⟨l, h2, fun x hx => ⟨h3 x hx, by have := le_sum β hx; simp only [UB] at h4; omega⟩, h5⟩
end
theorem At.addTx {w : World} {sp : List Nat} {L : List (Nat × Ent)} (hA : At w ⟨[], sp⟩ w L) : ∀ (l : List (Rc × Value)), (∀ p ∈ l, SlOk w p.2 p.1.data.texts.length (strs p.1.data.texts) 1) → ∃ sp', At w ⟨[], sp'⟩ w (tx l ++ L) := by
  intro l
  induction l with
  | nil => intro _; exact ⟨sp, hA⟩
  | cons x l ih =>
    intro h
    obtain ⟨sp', h1⟩ := ih (fun p hp => h p (by simp [hp]))
    exact At.addS 0 h1 (h x (by simp))
end Go.Proofs.Ytkpinncakbnikaa
