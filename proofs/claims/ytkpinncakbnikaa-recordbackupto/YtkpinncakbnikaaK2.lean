import Derived.Test.YtkpinncakbnikaaK1
import Derived.Test.YtkpinncakbnikaaS1
import Derived.Test.YtkpinncakbnikaaNp2
namespace Go.Proofs.Ytkpinncakbnikaa
open Go Np Go.Proofs
set_option linter.all false
set_option maxRecDepth 20000
theorem cut_byte64 (u i : Nat) (hi : i ≤ 7) : Value.int .u8 (IntKind.u8.wrap ((u : Int).fdiv (2 ^ (min (8 * (i : Int)).toNat IntKind.u64.bits)))) = .int .u8 (UInt8.ofNat (u / 256 ^ i)).toNat := by
  rw [IntKind.wrap_u8', show IntKind.u64.bits = 64 from rfl]
  have : i = 0 ∨ i = 1 ∨ i = 2 ∨ i = 3 ∨ i = 4 ∨ i = 5 ∨ i = 6 ∨ i = 7 := by omega
  rcases this with rfl | rfl | rfl | rfl | rfl | rfl | rfl | rfl <;> simp [Int.fdiv_eq_ediv_of_nonneg]
theorem be_take_succ (m x k : Nat) (hk : k < m) : (u8s (be m x)).take (m - k) = (u8s (be m x)).take (m - (k + 1)) ++ [.int .u8 (UInt8.ofNat (x / 256 ^ k)).toNat] := by
  rw [show m - k = (m - (k + 1)) + 1 from by omega, List.take_succ_eq_append_getElem (by simp [u8s, be]; omega)]
  congr 1
  simp only [u8s, be, List.map_map, List.getElem_map, List.getElem_range, Function.comp]
  rw [show m - 1 - (m - (k + 1)) = k from by omega]
section
variable {w0 w : World} {F : Fp} {L L' : List (Nat × Ent)} {b : Nat} {K : Value → World → Prop}
theorem c_parted {v : Value} {n x m : Nat} {xs : List Value} (hn : n ≤ 1000) (hx : x ≤ 18446744073709551615) (hm : m ≤ 8) (h : At w0 F w ((0, own v n xs Y_uint8 1) :: L))
    (hk : ∀ v' w', SlV v' (n + m) → At w0 F w' ((0, own v' (n + m) (xs ++ u8s (be m x)) Y_uint8 1) :: L) → K v' w') : Gv Try.prog F_addr_parted #[v, .int .u64 x, .int .i64 m] w K := by
  have hsl : SlV v n := own_slv (h.owns inferInstance)
  refine ok_addr_parted ?_
  unfold T_addr_parted
  repeat' (first | refine Step.out ?_ | refine And.intro (fun h => ?_) (fun h => ?_) | intro _ | refine GW.i64 (by omega) ?_ | refine GW.u32 (by omega) ?_ | refine GW.u64 (by omega) ?_ | refine GW.u8 (by omega) ?_ | refine GW.u16 (by omega) ?_ | refine And.intro rfl ?_ | refine And.intro (by assumption) ?_ | refine And.intro (by omega) ?_ | refine And.intro (by simp only [List.length_append, List.length_replicate, List.length_drop, List.length_take, List.length_cons, List.length_nil, u8s_len, be_length]; omega) ?_ | fail)
  refine loopN (fun k s w => k ≤ m ∧ ∃ u : Value, SlV u (n + (m - k)) ∧ s = [u, .int .u64 x, .int .i64 ((k : Int) - 1)] ∧ At w0 F w ((0, own u (n + (m - k)) (xs ++ (u8s (be m x)).take (m - k)) Y_uint8 1) :: L)) m
    ⟨Nat.le_refl _, v, by rw [Nat.sub_self]; exact hsl, rfl, by rw [Nat.sub_self, List.take_zero, List.append_nil]; exact h⟩ ?_
  rintro k ρ w ⟨hk', u, hu, hs, hA⟩
  simp only [pick, List.cons.injEq, and_true] at hs
  obtain ⟨h0, h1, h2⟩ := hs
  simp only [h0, h1, h2]
  repeat' (first | refine Step.out ?_ | refine And.intro (fun h => ?_) (fun h => ?_) | intro _ | refine GW.i64 (by omega) ?_ | refine GW.u32 (by omega) ?_ | refine GW.u64 (by omega) ?_ | refine GW.u8 (by omega) ?_ | refine GW.u16 (by omega) ?_ | refine And.intro rfl ?_ | refine And.intro (by assumption) ?_ | refine And.intro (by omega) ?_ | refine And.intro (by simp only [List.length_append, List.length_replicate, List.length_drop, List.length_take, List.length_cons, List.length_nil, u8s_len, be_length]; omega) ?_ | fail)
  · obtain ⟨i, rfl⟩ : ∃ i, k = i + 1 := ⟨k - 1, by omega⟩
    simp only [show (((i + 1 : Nat) : Int) - 1) = (i : Int) from by omega] at *
    refine GW.wr ?_
    rw [cut_byte64 x i (by omega)]
    repeat' (first | refine Step.out ?_ | refine And.intro (fun h => ?_) (fun h => ?_) | intro _ | refine GW.i64 (by omega) ?_ | refine GW.u32 (by omega) ?_ | refine GW.u64 (by omega) ?_ | refine GW.u8 (by omega) ?_ | refine GW.u16 (by omega) ?_ | refine And.intro rfl ?_ | refine And.intro (by assumption) ?_ | refine And.intro (by omega) ?_ | refine And.intro (by simp only [List.length_append, List.length_replicate, List.length_drop, List.length_take, List.length_cons, List.length_nil, u8s_len, be_length]; omega) ?_ | fail)
    try refine And.intro ⟨by omega, by omega⟩ ?_
    repeat' (first | refine Step.out ?_ | refine And.intro (fun h => ?_) (fun h => ?_) | intro _ | refine GW.i64 (by omega) ?_ | refine GW.u32 (by omega) ?_ | refine GW.u64 (by omega) ?_ | refine GW.u8 (by omega) ?_ | refine GW.u16 (by omega) ?_ | refine And.intro rfl ?_ | refine And.intro (by assumption) ?_ | refine And.intro (by omega) ?_ | refine And.intro (by simp only [List.length_append, List.length_replicate, List.length_drop, List.length_take, List.length_cons, List.length_nil, u8s_len, be_length]; omega) ?_ | fail)
    rename_i v' w' hv' hA'
    rw [show n + (m - (i + 1)) + 1 = n + (m - i) from by omega] at hv' hA'
    rw [List.append_assoc, ← be_take_succ m x i (by omega)] at hA'
    exact ⟨i, by omega, by omega, v', hv', rfl, hA'.sb⟩
  · have : k = 0 := by omega
    subst this
    rw [Nat.sub_zero, List.take_of_length_le (by simp [u8s, be])] at hA
    rw [Nat.sub_zero] at hu
    exact hk _ _ hu hA
instance {v : Value} {n x : Nat} {m : Int} {xs : List Value} [h : At w0 F w L] [rv : RmV L v n xs Y_uint8 1 L'] : Step (Gv Try.prog F_addr_parted #[v, .int .u64 x, .int .i64 m] w K)
    ((n ≤ 1000 ∧ x ≤ 18446744073709551615 ∧ 0 ≤ m ∧ m ≤ 8) ∧ ∀ v' w', SlV v' (n + m.toNat) → At w0 F w' ((0, own v' (n + m.toNat) (xs ++ u8s (be m.toNat x)) Y_uint8 1) :: L') → K v' w') := ⟨fun ⟨⟨h1, h2, h3, h4⟩, hk⟩ => by
  obtain ⟨k, hp⟩ := rv.perm
  obtain ⟨c, rfl⟩ : ∃ c : Nat, m = c := ⟨m.toNat, by omega⟩
  exact c_parted h1 h2 (by omega) ((h.perm hp).okey 0) hk⟩
instance (priority := high) {x : Nat} {m : Int} [h : At w0 F w L] : Step (Gv Try.prog F_addr_parted #[.slice none 0 0, .int .u64 x, .int .i64 m] w K)
    ((x ≤ 18446744073709551615 ∧ 0 ≤ m ∧ m ≤ 8) ∧ ∀ v' w', SlV v' m.toNat → At w0 F w' ((0, own v' m.toNat (u8s (be m.toNat x)) Y_uint8 1) :: L) → K v' w') := ⟨fun ⟨⟨h2, h3, h4⟩, hk⟩ => by
  obtain ⟨c, rfl⟩ : ∃ c : Nat, m = c := ⟨m.toNat, by omega⟩
  refine c_parted (n := 0) (xs := []) (by omega) h2 (by omega) (h.ownNil Y_uint8 1) fun v' w' h5 h6 => ?_
  simp only [Nat.zero_add, List.nil_append] at h5 h6
  exact hk v' w' h5 h6⟩
theorem c_Octets (a : Ad) (ha : OkA a) (h : At w0 F w L) (hk : ∀ w', At w0 F w' L → K (.tuple #[str (adOct a).1, .int .i64 (adOct a).2]) w') : Gv Try.prog F_addr_Octets #[adV a] w K := by
  have := ha.hi
  have := ha.lo
  refine ok_addr_Octets ?_
  unfold T_addr_Octets
  unfold adOct at hk
  refine Step.out ?_
  intro b1 w1 hA1
  refine Step.out ?_
  haveI hA2 : At w0 F w1 ((b1, cells [.bool a.six, .int .u64 a.hi, .int .u64 a.lo] Y_api_Addr) :: L) := hA1
  clear hA1
  refine (Step.out (G := Gv Try.prog F_addr_Check #[adV a] w1 _) ⟨ha, ?_⟩)
  repeat' (first | refine Step.out ?_ | refine And.intro (fun h => ?_) (fun h => ?_) | intro _ | refine GW.i64 (by omega) ?_ | refine GW.u32 (by omega) ?_ | refine GW.u64 (by omega) ?_ | refine GW.u8 (by omega) ?_ | refine GW.u16 (by omega) ?_ | refine And.intro rfl ?_ | refine And.intro (by assumption) ?_ | refine And.intro (by omega) ?_ | refine And.intro (by simp only [List.length_append, List.length_replicate, List.length_drop, List.length_take, List.length_cons, List.length_nil, u8s_len, be_length]; omega) ?_ | fail)
  · rw [if_pos (by assumption)] at hk; exact hk _ (At.sb ‹_›)
  · have h6 : a.six = false := by simpa using ‹¬ a.six = true›
    rw [if_neg (by assumption), if_pos h6] at hk; exact hk _ (At.sb ‹_›)
  · have h6 : ¬ a.six = false := by
      intro h; exact absurd ‹¬ ¬ a.six = true› (by simp [h])
    rw [if_neg (by assumption), if_neg h6] at hk
    rename_i hA
    rw [show Int.toNat 8 = 8 from rfl, ← u8s_append] at hA
    repeat' (first | refine Step.out ?_ | refine And.intro (fun h => ?_) (fun h => ?_) | intro _ | refine GW.i64 (by omega) ?_ | refine GW.u32 (by omega) ?_ | refine GW.u64 (by omega) ?_ | refine GW.u8 (by omega) ?_ | refine GW.u16 (by omega) ?_ | refine And.intro rfl ?_ | refine And.intro (by assumption) ?_ | refine And.intro (by omega) ?_ | refine And.intro (by simp only [List.length_append, List.length_replicate, List.length_drop, List.length_take, List.length_cons, List.length_nil, u8s_len, be_length]; omega) ?_ | fail)
    exact hk _ (At.sb ‹_›)
instance {a : Ad} [h : At w0 F w L] : Step (Gv Try.prog F_addr_Octets #[adV a] w K) (OkA a ∧ ∀ w', At w0 F w' L → K (.tuple #[str (adOct a).1, .int .i64 (adOct a).2]) w') := ⟨fun ⟨h1, h2⟩ => c_Octets a h1 h h2⟩

/-! ## slices, cmp -/
theorem dec_self {α : Type} [DecidableEq α] (x : α) : (!dec (x = x)) = false := by rw [dec_eq]; simp
instance {x : By} [h : At w0 F w L] : Step (Gv Try.prog F_cmp_isNaN_api_Name #[str x] w K) (∀ w', At w0 F w' L → K (.bool false) w') := ⟨fun hk => by
  refine ok_cmp_isNaN_api_Name ?_
  unfold T_cmp_isNaN_api_Name
  repeat' (first | refine Step.out ?_ | refine And.intro (fun h => ?_) (fun h => ?_) | intro _ | refine GW.i64 (by omega) ?_ | refine GW.u32 (by omega) ?_ | refine GW.u64 (by omega) ?_ | refine GW.u8 (by omega) ?_ | refine GW.u16 (by omega) ?_ | refine And.intro rfl ?_ | refine And.intro (by assumption) ?_ | refine And.intro (by omega) ?_ | refine And.intro (by simp only [List.length_append, List.length_replicate, List.length_drop, List.length_take, List.length_cons, List.length_nil, u8s_len, be_length]; omega) ?_ | fail)
  rw [dec_self]; exact hk _ ‹_›⟩
instance {x : Int} [h : At w0 F w L] : Step (Gv Try.prog F_cmp_isNaN_int #[.int .i64 x] w K) (∀ w', At w0 F w' L → K (.bool false) w') := ⟨fun hk => by
  refine ok_cmp_isNaN_int ?_
  unfold T_cmp_isNaN_int
  repeat' (first | refine Step.out ?_ | refine And.intro (fun h => ?_) (fun h => ?_) | intro _ | refine GW.i64 (by omega) ?_ | refine GW.u32 (by omega) ?_ | refine GW.u64 (by omega) ?_ | refine GW.u8 (by omega) ?_ | refine GW.u16 (by omega) ?_ | refine And.intro rfl ?_ | refine And.intro (by assumption) ?_ | refine And.intro (by omega) ?_ | refine And.intro (by simp only [List.length_append, List.length_replicate, List.length_drop, List.length_take, List.length_cons, List.length_nil, u8s_len, be_length]; omega) ?_ | fail)
  rw [dec_self]; exact hk _ ‹_›⟩
instance {x : Int} [h : At w0 F w L] : Step (Gv Try.prog F_cmp_isNaN_uint32 #[.int .u32 x] w K) (∀ w', At w0 F w' L → K (.bool false) w') := ⟨fun hk => by
  refine ok_cmp_isNaN_uint32 ?_
  unfold T_cmp_isNaN_uint32
  repeat' (first | refine Step.out ?_ | refine And.intro (fun h => ?_) (fun h => ?_) | intro _ | refine GW.i64 (by omega) ?_ | refine GW.u32 (by omega) ?_ | refine GW.u64 (by omega) ?_ | refine GW.u8 (by omega) ?_ | refine GW.u16 (by omega) ?_ | refine And.intro rfl ?_ | refine And.intro (by assumption) ?_ | refine And.intro (by omega) ?_ | refine And.intro (by simp only [List.length_append, List.length_replicate, List.length_drop, List.length_take, List.length_cons, List.length_nil, u8s_len, be_length]; omega) ?_ | fail)
  rw [dec_self]; exact hk _ ‹_›⟩
theorem bytesLess_irrefl : ∀ x : By, Op.bytesLess x x = false := by
  intro x
  induction x with
  | nil => simp [Op.bytesLess]
  | cons c x ih => simp [Op.bytesLess, ih]
instance {x y : By} [h : At w0 F w L] : Step (Gv Try.prog F_cmp_Compare_api_Name #[str x, str y] w K) (∀ c w', (c = 0 ↔ x = y) → At w0 F w' L → K (.int .i64 c) w') := ⟨fun hk => by
  refine ok_cmp_Compare_api_Name ?_
  unfold T_cmp_Compare_api_Name
  repeat' (first | refine Step.out ?_ | refine And.intro (fun h => ?_) (fun h => ?_) | intro _ | refine GW.i64 (by omega) ?_ | refine GW.u32 (by omega) ?_ | refine GW.u64 (by omega) ?_ | refine GW.u8 (by omega) ?_ | refine GW.u16 (by omega) ?_ | refine And.intro rfl ?_ | refine And.intro (by assumption) ?_ | refine And.intro (by omega) ?_ | refine And.intro (by simp only [List.length_append, List.length_replicate, List.length_drop, List.length_take, List.length_cons, List.length_nil, u8s_len, be_length]; omega) ?_ | fail)
  · refine hk _ _ ⟨fun h => absurd h (by decide), fun e => ?_⟩ ‹_›
    subst e
    have := ‹Op.bytesLess x x = true›
    rw [bytesLess_irrefl] at this; cases this
  · rename_i h
    refine hk _ _ ⟨fun h => absurd h (by decide), fun e => ?_⟩ ‹_›
    subst e
    exfalso; simp [dec_eq] at h
  · refine hk _ _ ⟨fun _ => ?_, fun _ => rfl⟩ ‹_›
    have h1 := ‹¬ Op.bytesLess x y = true›
    have h2 := ‹¬ ¬ (Op.bytesLess x y || dec (x = y)) = true›
    simp only [Decidable.not_not, Bool.or_eq_true, dec_iff] at h2
    exact h2.resolve_left h1⟩
instance {x y : Int} [h : At w0 F w L] : Step (Gv Try.prog F_cmp_Compare_int #[.int .i64 x, .int .i64 y] w K) (∀ c w', (c = 0 ↔ x = y) → At w0 F w' L → K (.int .i64 c) w') := ⟨fun hk => by
  refine ok_cmp_Compare_int ?_
  unfold T_cmp_Compare_int
  repeat' (first | refine Step.out ?_ | refine And.intro (fun h => ?_) (fun h => ?_) | intro _ | refine GW.i64 (by omega) ?_ | refine GW.u32 (by omega) ?_ | refine GW.u64 (by omega) ?_ | refine GW.u8 (by omega) ?_ | refine GW.u16 (by omega) ?_ | refine And.intro rfl ?_ | refine And.intro (by assumption) ?_ | refine And.intro (by omega) ?_ | refine And.intro (by simp only [List.length_append, List.length_replicate, List.length_drop, List.length_take, List.length_cons, List.length_nil, u8s_len, be_length]; omega) ?_ | fail)
  · exact hk _ _ ⟨fun h => absurd h (by decide), fun e => by omega⟩ ‹_›
  · exact hk _ _ ⟨fun h => absurd h (by decide), fun e => by omega⟩ ‹_›
  · exact hk _ _ ⟨fun _ => by omega, fun _ => rfl⟩ ‹_›⟩
instance {x y : Int} [h : At w0 F w L] : Step (Gv Try.prog F_cmp_Compare_uint32 #[.int .u32 x, .int .u32 y] w K) (∀ c w', (c = 0 ↔ x = y) → At w0 F w' L → K (.int .i64 c) w') := ⟨fun hk => by
  refine ok_cmp_Compare_uint32 ?_
  unfold T_cmp_Compare_uint32
  repeat' (first | refine Step.out ?_ | refine And.intro (fun h => ?_) (fun h => ?_) | intro _ | refine GW.i64 (by omega) ?_ | refine GW.u32 (by omega) ?_ | refine GW.u64 (by omega) ?_ | refine GW.u8 (by omega) ?_ | refine GW.u16 (by omega) ?_ | refine And.intro rfl ?_ | refine And.intro (by assumption) ?_ | refine And.intro (by omega) ?_ | refine And.intro (by simp only [List.length_append, List.length_replicate, List.length_drop, List.length_take, List.length_cons, List.length_nil, u8s_len, be_length]; omega) ?_ | fail)
  · exact hk _ _ ⟨fun h => absurd h (by decide), fun e => by omega⟩ ‹_›
  · exact hk _ _ ⟨fun h => absurd h (by decide), fun e => by omega⟩ ‹_›
  · exact hk _ _ ⟨fun _ => by omega, fun _ => rfl⟩ ‹_›⟩
theorem c_Equal {v v' : Value} {n n' : Nat} {l l' : List By} (hn : n ≤ 1099511627776) : Ct Try.prog F_slices_Equal_string_string #[v, v'] [(0, sl v n (strs l) 1), (1, sl v' n' (strs l') 1)] fun u B => u = .bool (dec (l = l')) ∧ B = [] := by
  intro w0 F w hA
  have hsl : SlG v n := hA.slG inferInstance
  have hsl' : SlG v' n' := hA.slG inferInstance
  have hln : l.length = n := by have := hA.slLen (inferInstance : HasS _ v n (strs l) 1); simpa [strs] using this
  have hln' : l'.length = n' := by
    have hB : At w0 F w [(1, sl v' n' (strs l') 1)] := hA.drop
    have := hB.slLen (inferInstance : HasS _ v' n' (strs l') 1); simpa [strs] using this
  refine ok_slices_Equal_string_string ?_
  unfold T_slices_Equal_string_string
  repeat' (first | refine Step.out ?_ | refine And.intro (fun h => ?_) (fun h => ?_) | intro _ | refine GW.i64 (by omega) ?_ | refine GW.u32 (by omega) ?_ | refine GW.u64 (by omega) ?_ | refine GW.u8 (by omega) ?_ | refine GW.u16 (by omega) ?_ | refine And.intro rfl ?_ | refine And.intro (by assumption) ?_ | refine And.intro (by omega) ?_ | refine And.intro (by simp only [List.length_append, List.length_replicate, List.length_drop, List.length_take, List.length_cons, List.length_nil, u8s_len, be_length]; omega) ?_ | fail)
  · refine ⟨_, ⟨?_, rfl⟩, At.emp ‹_›⟩
    have : ¬ l = l' := by rintro rfl; omega
    simp [dec_eq, this]
  · refine loopN (fun k s w => ∃ i : Nat, i + k = n ∧ l.take i = l'.take i ∧ s = [v, v', .int .i64 n, .int .i64 i] ∧ At w0 F w [(0, sl v n (strs l) 1), (1, sl v' n' (strs l') 1)]) n ⟨0, by omega, by simp, rfl, ‹_›⟩ ?_
    rintro k ρ w ⟨i, hi, hpre, hs, hA⟩
    simp only [pick, List.cons.injEq, and_true] at hs
    obtain ⟨h0, h1, h2, h3⟩ := hs
    simp only [h0, h1, h2, h3]
    repeat' (first | refine Step.out ?_ | refine And.intro (fun h => ?_) (fun h => ?_) | intro _ | refine GW.i64 (by omega) ?_ | refine GW.u32 (by omega) ?_ | refine GW.u64 (by omega) ?_ | refine GW.u8 (by omega) ?_ | refine GW.u16 (by omega) ?_ | refine And.intro rfl ?_ | refine And.intro (by assumption) ?_ | refine And.intro (by omega) ?_ | refine And.intro (by simp only [List.length_append, List.length_replicate, List.length_drop, List.length_take, List.length_cons, List.length_nil, u8s_len, be_length]; omega) ?_ | fail)
    all_goals try simp only [Int.toNat_natCast] at *
    · refine ⟨_, ⟨?_, rfl⟩, At.emp ‹_›⟩
      have : ¬ l = l' := by rintro rfl; exact absurd rfl ‹¬ l.getD i [] = l.getD i []›
      simp [dec_eq, this]
    · have he : l.getD i [] = l'.getD i [] := Decidable.not_not.1 (by assumption)
      refine ⟨k - 1, by omega, i + 1, by omega, ?_, by simp, ‹_›⟩
      rw [List.take_succ_eq_append_getElem (by omega : i < l.length), List.take_succ_eq_append_getElem (by omega : i < l'.length), hpre]
      simp only [List.getD_eq_getElem?_getD, List.getElem?_eq_getElem (by omega : i < l.length), List.getElem?_eq_getElem (by omega : i < l'.length), Option.getD_some] at he
      rw [he]
    · refine ⟨_, ⟨?_, rfl⟩, At.emp ‹_›⟩
      have h1 : l.take i = l := List.take_of_length_le (by omega)
      have h2 : l'.take i = l' := List.take_of_length_le (by omega)
      rw [h1, h2] at hpre
      simp [dec_eq, hpre]
instance {v v' : Value} {n n' : Nat} {l l' : List By} [h : At w0 F w L] [r : HasS L v n (strs l) 1] [r' : HasS L v' n' (strs l') 1] : Step (Gv Try.prog F_slices_Equal_string_string #[v, v'] w K) (n ≤ 1099511627776 ∧ ∀ w', At w0 F w' L → K (.bool (dec (l = l'))) w') := ⟨fun ⟨hn, hk⟩ => by
  have h1 := h.dupS r'
  obtain ⟨k, hm⟩ := r.mem
  haveI r2 : HasS ((0, sl v' n' (strs l') 1) :: L) v n (strs l) 1 := ⟨k, List.mem_cons_of_mem _ hm⟩
  have h2 := h1.dupS r2
  have h3 : At w0 F w ((0, sl v n (strs l) 1) :: (1, sl v' n' (strs l') 1) :: L) := ((h2.perm (List.Perm.swap _ _ _)).skey 1).perm (List.Perm.swap _ _ _)
  exact Ct.call (A := [(0, sl v n (strs l) 1), (1, sl v' n' (strs l') 1)]) (φ := fun u B => u = .bool (dec (l = l')) ∧ B = []) (c_Equal hn) (List.Perm.refl _) h3 fun u B w' ⟨e1, e2⟩ hA => by
    subst e2; rw [e1]; exact hk w' hA⟩

instance : HasBody Try.prog F_rdata_check_1 := ⟨by kernel_rfl⟩
instance {x : By} [h : At w0 F w L] : Step (Gv Try.prog F_rdata_check_1 #[str x] w K) (∀ w', At w0 F w' L → K (.bool (dec (255 < (x.length : Int)))) w') := ⟨fun hk => by
  refine ok_rdata_check_1 ?_
  unfold T_rdata_check_1
  repeat' (first | refine Step.out ?_ | refine And.intro (fun h => ?_) (fun h => ?_) | intro _ | refine GW.i64 (by omega) ?_ | refine GW.u32 (by omega) ?_ | refine GW.u64 (by omega) ?_ | refine GW.u8 (by omega) ?_ | refine GW.u16 (by omega) ?_ | refine And.intro rfl ?_ | refine And.intro (by assumption) ?_ | refine And.intro (by omega) ?_ | refine And.intro (by simp only [List.length_append, List.length_replicate, List.length_drop, List.length_take, List.length_cons, List.length_nil, u8s_len, be_length]; omega) ?_ | fail)
  exact hk _ ‹_›⟩
abbrev fv (f : Nat) : Value := .func (.func f) #[] #[]
theorem c_IndexFunc {v : Value} {n : Nat} {l : List By} (hn : n ≤ 1099511627776) : Ct Try.prog F_slices_IndexFunc_string_string #[v, fv F_rdata_check_1] [(0, sl v n (strs l) 1)] fun u B => (∃ r : Int, u = .int .i64 r ∧ (0 ≤ r ↔ ∃ x ∈ l, 255 < x.length)) ∧ B = [] := by
  intro w0 F w hA
  have hsl : SlG v n := hA.slG inferInstance
  have hln : l.length = n := by have := hA.slLen (inferInstance : HasS _ v n (strs l) 1); simpa [strs] using this
  refine ok_slices_IndexFunc_string_string ?_
  unfold T_slices_IndexFunc_string_string
  repeat' (first | refine Step.out ?_ | refine And.intro (fun h => ?_) (fun h => ?_) | intro _ | refine GW.i64 (by omega) ?_ | refine GW.u32 (by omega) ?_ | refine GW.u64 (by omega) ?_ | refine GW.u8 (by omega) ?_ | refine GW.u16 (by omega) ?_ | refine And.intro rfl ?_ | refine And.intro (by assumption) ?_ | refine And.intro (by omega) ?_ | refine And.intro (by simp only [List.length_append, List.length_replicate, List.length_drop, List.length_take, List.length_cons, List.length_nil, u8s_len, be_length]; omega) ?_ | fail)
  refine loopN (fun k s w => ∃ i : Nat, i + k = n ∧ (∀ x ∈ l.take i, ¬ 255 < x.length) ∧ s = [v, fv F_rdata_check_1, .int .i64 n, .int .i64 i] ∧ At w0 F w [(0, sl v n (strs l) 1)]) n ⟨0, by omega, by simp, rfl, ‹_›⟩ ?_
  rintro k ρ w ⟨i, hi, hpre, hs, hA⟩
  simp only [pick, List.cons.injEq, and_true] at hs
  obtain ⟨h0, h1, h2, h3⟩ := hs
  simp only [h0, h1, h2, h3]
  repeat' (first | refine Step.out ?_ | refine And.intro (fun h => ?_) (fun h => ?_) | intro _ | refine GW.i64 (by omega) ?_ | refine GW.u32 (by omega) ?_ | refine GW.u64 (by omega) ?_ | refine GW.u8 (by omega) ?_ | refine GW.u16 (by omega) ?_ | refine And.intro rfl ?_ | refine And.intro (by assumption) ?_ | refine And.intro (by omega) ?_ | refine And.intro (by simp only [List.length_append, List.length_replicate, List.length_drop, List.length_take, List.length_cons, List.length_nil, u8s_len, be_length]; omega) ?_ | fail)
  all_goals try simp only [Int.toNat_natCast] at *
  · refine ⟨_, ⟨⟨_, rfl, fun _ => ⟨l.getD i [], ?_, by omega⟩, fun _ => by omega⟩, rfl⟩, At.emp ‹_›⟩
    rw [List.getD_eq_getElem?_getD, List.getElem?_eq_getElem (by omega)]; simp
  · refine ⟨k - 1, by omega, i + 1, by omega, ?_, by simp, ‹_›⟩
    intro x hx
    rw [List.take_succ_eq_append_getElem (by omega : i < l.length)] at hx
    rcases List.mem_append.1 hx with hx | hx
    · exact hpre x hx
    · simp only [List.mem_singleton] at hx
      have h9 := ‹¬ (255 : Int) < ((l.getD i []).length : Int)›
      rw [List.getD_eq_getElem?_getD, List.getElem?_eq_getElem (by omega), Option.getD_some] at h9
      rw [hx]; omega
  · refine ⟨_, ⟨⟨_, rfl, fun h => by omega, fun ⟨x, hx, hl⟩ => ?_⟩, rfl⟩, At.emp ‹_›⟩
    rw [List.take_of_length_le (by omega)] at hpre
    exact absurd hl (hpre x hx)
instance {v : Value} {n : Nat} {l : List By} [h : At w0 F w L] [r : HasS L v n (strs l) 1] : Step (Gv Try.prog F_slices_ContainsFunc_string_string #[v, fv F_rdata_check_1] w K) (n ≤ 1099511627776 ∧ ∀ q w', (q = true ↔ ∃ x ∈ l, 255 < x.length) → At w0 F w' L → K (.bool q) w') := ⟨fun ⟨hn, hk⟩ => by
  refine ok_slices_ContainsFunc_string_string ?_
  unfold T_slices_ContainsFunc_string_string
  refine Ct.readS (φ := fun u => ∃ r : Int, u = .int .i64 r ∧ (0 ≤ r ↔ ∃ x ∈ l, 255 < x.length)) (c_IndexFunc hn) h r fun u w' hu hA => ?_
  obtain ⟨q, rfl, hq⟩ := hu
  repeat' (first | refine Step.out ?_ | refine And.intro (fun h => ?_) (fun h => ?_) | intro _ | refine GW.i64 (by omega) ?_ | refine GW.u32 (by omega) ?_ | refine GW.u64 (by omega) ?_ | refine GW.u8 (by omega) ?_ | refine GW.u16 (by omega) ?_ | refine And.intro rfl ?_ | refine And.intro (by assumption) ?_ | refine And.intro (by omega) ?_ | refine And.intro (by simp only [List.length_append, List.length_replicate, List.length_drop, List.length_take, List.length_cons, List.length_nil, u8s_len, be_length]; omega) ?_ | fail)
  exact hk _ _ (by rw [dec_iff]; exact hq) hA⟩

def ivs (l : List Int) : List Value := l.map (Value.int .i64)
theorem c_Or {v : Value} {n : Nat} {l : List Int} (hn : n ≤ 1099511627776) : Ct Try.prog F_cmp_Or_int #[v] [(0, sl v n (ivs l) 1)] fun u B => (∃ r : Int, u = .int .i64 r ∧ (r = 0 ↔ ∀ x ∈ l, x = 0)) ∧ B = [] := by
  intro w0 F w hA
  have hsl : SlG v n := hA.slG inferInstance
  have hln : l.length = n := by have := hA.slLen (inferInstance : HasS _ v n (ivs l) 1); simpa [ivs] using this
  refine ok_cmp_Or_int ?_
  unfold T_cmp_Or_int
  repeat' (first | refine Step.out ?_ | refine And.intro (fun h => ?_) (fun h => ?_) | intro _ | refine GW.i64 (by omega) ?_ | refine GW.u32 (by omega) ?_ | refine GW.u64 (by omega) ?_ | refine GW.u8 (by omega) ?_ | refine GW.u16 (by omega) ?_ | refine And.intro rfl ?_ | refine And.intro (by assumption) ?_ | refine And.intro (by omega) ?_ | refine And.intro (by simp only [List.length_append, List.length_replicate, List.length_drop, List.length_take, List.length_cons, List.length_nil, u8s_len, be_length]; omega) ?_ | fail)
  refine loopN (fun k s w => ∃ i : Nat, i + k = n ∧ (∀ x ∈ l.take i, x = 0) ∧ s = [.int .i64 0, v, .int .i64 n, .int .i64 i] ∧ At w0 F w [(0, sl v n (ivs l) 1)]) n ⟨0, by omega, by simp, rfl, ‹_›⟩ ?_
  rintro k ρ w ⟨i, hi, hpre, hs, hA⟩
  simp only [pick, List.cons.injEq, and_true] at hs
  obtain ⟨h0, h1, h2, h3⟩ := hs
  simp only [h0, h1, h2, h3]
  repeat' (first | refine Step.out ?_ | refine And.intro (fun h => ?_) (fun h => ?_) | intro _ | refine GW.i64 (by omega) ?_ | refine GW.u32 (by omega) ?_ | refine GW.u64 (by omega) ?_ | refine GW.u8 (by omega) ?_ | refine GW.u16 (by omega) ?_ | refine And.intro rfl ?_ | refine And.intro (by assumption) ?_ | refine And.intro (by omega) ?_ | refine And.intro (by simp only [List.length_append, List.length_replicate, List.length_drop, List.length_take, List.length_cons, List.length_nil, u8s_len, be_length]; omega) ?_ | fail)
  · have hg : (ivs l).getD (i : Int).toNat undef = .int .i64 (l.getD i 0) := by
      rw [Int.toNat_natCast]; simp [ivs, show i < l.length from by omega]
    have hm : l.getD i 0 ∈ l := by rw [List.getD_eq_getElem?_getD, List.getElem?_eq_getElem (by omega)]; simp
    rw [hg]
    repeat' (first | refine Step.out ?_ | refine And.intro (fun h => ?_) (fun h => ?_) | intro _ | refine GW.i64 (by omega) ?_ | refine GW.u32 (by omega) ?_ | refine GW.u64 (by omega) ?_ | refine GW.u8 (by omega) ?_ | refine GW.u16 (by omega) ?_ | refine And.intro rfl ?_ | refine And.intro (by assumption) ?_ | refine And.intro (by omega) ?_ | refine And.intro (by simp only [List.length_append, List.length_replicate, List.length_drop, List.length_take, List.length_cons, List.length_nil, u8s_len, be_length]; omega) ?_ | fail)
    · refine ⟨_, ⟨⟨_, rfl, fun h => absurd h (by assumption), fun h => h _ hm⟩, rfl⟩, At.emp ‹_›⟩
    · refine ⟨k - 1, by omega, i + 1, by omega, ?_, by simp, ‹_›⟩
      intro x hx
      rw [List.take_succ_eq_append_getElem (by omega : i < l.length)] at hx
      rcases List.mem_append.1 hx with hx | hx
      · exact hpre x hx
      · simp only [List.mem_singleton] at hx
        have h9 := Decidable.not_not.1 ‹¬ ¬ (l.getD i 0) = 0›
        rw [List.getD_eq_getElem?_getD, List.getElem?_eq_getElem (by omega), Option.getD_some] at h9
        rw [hx]; exact h9
  · refine ⟨_, ⟨⟨_, rfl, fun _ => ?_, fun _ => rfl⟩, rfl⟩, At.emp ‹_›⟩
    rw [List.take_of_length_le (by omega)] at hpre
    exact hpre
instance {v : Value} {n : Nat} {l : List Int} [h : At w0 F w L] [r : HasS L v n (ivs l) 1] : Step (Gv Try.prog F_cmp_Or_int #[v] w K) (n ≤ 1099511627776 ∧ ∀ q w', (q = 0 ↔ ∀ x ∈ l, x = 0) → At w0 F w' L → K (.int .i64 q) w') := ⟨fun ⟨hn, hk⟩ =>
  Ct.readS (φ := fun u => ∃ r : Int, u = .int .i64 r ∧ (r = 0 ↔ ∀ x ∈ l, x = 0)) (c_Or hn) h r fun u w' hu hA => by
    obtain ⟨q, rfl, hq⟩ := hu
    exact hk _ _ hq hA⟩
end
end Go.Proofs.Ytkpinncakbnikaa
namespace Go.Proofs.Ytkpinncakbnikaa
open Go Np Go.Proofs
set_option linter.all false
set_option maxRecDepth 20000
abbrev whC (w : What) : List Value := [str w.text, .int .i64 w.addr, .int .i64 w.names, .bool w.plain, .bool w.numsFirst, .int .i64 w.nums, .int .i64 w.wide, .bool w.texts, .bool w.raw]
abbrev whV (w : What) : Value := .agg (whC w).toArray
def wmap : List (Int × Value) := wlist.map fun p => (p.1, whV p.2)
theorem look_wmap (t : Int) : Np.look wmap t = (findW wlist t).map whV := by
  unfold wmap
  generalize wlist = l
  induction l with
  | nil => rfl
  | cons p l ih =>
    obtain ⟨a, w⟩ := p
    simp only [List.map_cons, Np.look, findW, ih]
    split <;> rfl
section
variable {w0 w : World} {F : Fp} {L L' : List (Nat × Ent)} {b : Nat} {K : Value → World → Prop}
instance [h : At w0 F w L] : Step (Gv Try.prog F_rdata_types #[] w K) (∀ b w', At w0 F w' ((b, mapE (.int .i64) wmap) :: L) → K (.map (some b)) w') := ⟨fun hk => by
  refine ok_rdata_types ?_
  unfold T_rdata_types
  refine Step.out ?_
  intro b w' hA
  haveI hA := hA (.int .i64)
  repeat' (first | refine Step.out ?_ | refine And.intro (fun h => ?_) (fun h => ?_) | intro _ | refine GW.i64 (by omega) ?_ | refine GW.u32 (by omega) ?_ | refine GW.u64 (by omega) ?_ | refine GW.u8 (by omega) ?_ | refine GW.u16 (by omega) ?_ | refine And.intro rfl ?_ | refine And.intro (by assumption) ?_ | refine And.intro (by omega) ?_ | refine And.intro (by simp only [List.length_append, List.length_replicate, List.length_drop, List.length_take, List.length_cons, List.length_nil, u8s_len, be_length]; omega) ?_ | fail)
  exact hk _ _ ‹_›⟩
instance {t : Int} [h : At w0 F w L] : Step (Gv Try.prog F_rdata_of #[.int .i64 t] w K) (∀ w', At w0 F w' L → K (whV (whatOf t)) w') := ⟨fun hk => by
  refine ok_rdata_of ?_
  unfold T_rdata_of
  unfold whatOf at hk
  have hl := look_wmap t
  cases hf : findW wlist t with
  | none =>
    rw [hf] at hl hk
    haveI : LkNone wmap t := ⟨hl⟩
    repeat' (first | refine Step.out ?_ | refine And.intro (fun h => ?_) (fun h => ?_) | intro _ | refine GW.i64 (by omega) ?_ | refine GW.u32 (by omega) ?_ | refine GW.u64 (by omega) ?_ | refine GW.u8 (by omega) ?_ | refine GW.u16 (by omega) ?_ | refine And.intro rfl ?_ | refine And.intro (by assumption) ?_ | refine And.intro (by omega) ?_ | refine And.intro (by simp only [List.length_append, List.length_replicate, List.length_drop, List.length_take, List.length_cons, List.length_nil, u8s_len, be_length]; omega) ?_ | fail)
    exact hk _ (At.sb ‹_›)
  | some x =>
    rw [hf] at hl hk
    haveI : LkSome wmap t (whV x) := ⟨hl⟩
    repeat' (first | refine Step.out ?_ | refine And.intro (fun h => ?_) (fun h => ?_) | intro _ | refine GW.i64 (by omega) ?_ | refine GW.u32 (by omega) ?_ | refine GW.u64 (by omega) ?_ | refine GW.u8 (by omega) ?_ | refine GW.u16 (by omega) ?_ | refine And.intro rfl ?_ | refine And.intro (by assumption) ?_ | refine And.intro (by omega) ?_ | refine And.intro (by simp only [List.length_append, List.length_replicate, List.length_drop, List.length_take, List.length_cons, List.length_nil, u8s_len, be_length]; omega) ?_ | fail)
    exact hk _ (At.sb ‹_›)⟩
instance {t : Int} [h : At w0 F w L] : Step (Gv Try.prog F_rdata_Known #[.int .i64 t] w K) (∀ w', At w0 F w' L → K (.bool (knownT t)) w') := ⟨fun hk => by
  refine ok_rdata_Known ?_
  unfold T_rdata_Known
  unfold knownT at hk
  have hl := look_wmap t
  cases hf : findW wlist t with
  | none =>
    rw [hf] at hl hk
    haveI : LkNone wmap t := ⟨hl⟩
    repeat' (first | refine Step.out ?_ | refine And.intro (fun h => ?_) (fun h => ?_) | intro _ | refine GW.i64 (by omega) ?_ | refine GW.u32 (by omega) ?_ | refine GW.u64 (by omega) ?_ | refine GW.u8 (by omega) ?_ | refine GW.u16 (by omega) ?_ | refine And.intro rfl ?_ | refine And.intro (by assumption) ?_ | refine And.intro (by omega) ?_ | refine And.intro (by simp only [List.length_append, List.length_replicate, List.length_drop, List.length_take, List.length_cons, List.length_nil, u8s_len, be_length]; omega) ?_ | fail)
    exact hk _ (At.sb ‹_›)
  | some x =>
    rw [hf] at hl hk
    haveI : LkSome wmap t (whV x) := ⟨hl⟩
    repeat' (first | refine Step.out ?_ | refine And.intro (fun h => ?_) (fun h => ?_) | intro _ | refine GW.i64 (by omega) ?_ | refine GW.u32 (by omega) ?_ | refine GW.u64 (by omega) ?_ | refine GW.u8 (by omega) ?_ | refine GW.u16 (by omega) ?_ | refine And.intro rfl ?_ | refine And.intro (by assumption) ?_ | refine And.intro (by omega) ?_ | refine And.intro (by simp only [List.length_append, List.length_replicate, List.length_drop, List.length_take, List.length_cons, List.length_nil, u8s_len, be_length]; omega) ?_ | fail)
    exact hk _ (At.sb ‹_›)⟩
instance {t : Int} [h : At w0 F w L] : Step (Gv Try.prog F_rdata_may #[.int .i64 t] w K) (∀ q w', (q = true ↔ mayT t) → At w0 F w' L → K (.bool q) w') := ⟨fun hk => by
  refine ok_rdata_may ?_
  unfold T_rdata_may
  repeat' (first | refine Step.out ?_ | refine And.intro (fun h => ?_) (fun h => ?_) | intro _ | refine GW.i64 (by omega) ?_ | refine GW.u32 (by omega) ?_ | refine GW.u64 (by omega) ?_ | refine GW.u8 (by omega) ?_ | refine GW.u16 (by omega) ?_ | refine And.intro rfl ?_ | refine And.intro (by assumption) ?_ | refine And.intro (by omega) ?_ | refine And.intro (by simp only [List.length_append, List.length_replicate, List.length_drop, List.length_take, List.length_cons, List.length_nil, u8s_len, be_length]; omega) ?_ | fail)
  · exact hk _ _ (by rw [dec_iff]; unfold mayT; omega) ‹_›
  · exact hk _ _ (by unfold mayT; exact ⟨fun h => (by cases h), fun h => (by omega)⟩) ‹_›⟩

abbrev daC (d : Dat) (v : Value) : List Value := [.bool d.addr.six, .int .u64 d.addr.hi, .int .u64 d.addr.lo, str d.name, str d.mail, .int .u32 d.n0, .int .u32 d.n1, .int .u32 d.n2, .int .u32 d.n3, .int .u32 d.n4, v, str d.raw]
abbrev daV (d : Dat) (v : Value) : Value := .agg (daC d v).toArray
theorem nums_get (d : Dat) {i : Nat} (h : i < 5) : [Value.int .u32 d.n0, .int .u32 d.n1, .int .u32 d.n2, .int .u32 d.n3, .int .u32 d.n4].getD (i : Int).toNat undef = .int .u32 (d.num i : Nat) := by
  have : i = 0 ∨ i = 1 ∨ i = 2 ∨ i = 3 ∨ i = 4 := by omega
  rcases this with rfl | rfl | rfl | rfl | rfl <;> rfl
theorem c_bare {W : What} {d : Dat} {v : Value} {n : Nat} (hW : OkW W) (hd : OkD d) : Ct Try.prog F_rdata_what_bare #[whV W, daV d v] [(0, sl v n (strs d.texts) 1)] fun u B => (∃ q : Bool, u = .bool q ∧ (q = true ↔ Bare W d)) ∧ B = [] := by
  intro w0 F w hA
  have hsl : SlG v n := hA.slG inferInstance
  have hln : d.texts.length = n := by have := hA.slLen (inferInstance : HasS _ v n (strs d.texts) 1); simpa [strs] using this
  have htx : d.texts = [] ↔ n = 0 := by rw [← hln]; exact List.length_eq_zero_iff.symm
  obtain ⟨wa, wn, wnu, ww⟩ := hW
  refine ok_rdata_what_bare ?_
  unfold T_rdata_what_bare
  refine Step.out ?_
  intro b1 w1 hA1
  refine Step.out ?_
  intro b2 w2 hA2
  clear hA hA1
  refine cutL (fun s w => ∃ q : Bool, (q = true ↔ ((W.names < 1 ∧ d.name ≠ []) ∨ (W.names < 2 ∧ d.mail ≠ []) ∨ (W.raw = false ∧ d.raw ≠ []) ∨ ¬ (W.texts = true ↔ d.texts ≠ []))) ∧
    s = [ptr b1, ptr b2, .bool q] ∧ At w0 F w [(b2, cells (daC d v) Y_api_Data), (b1, cells (whC W) Y_rdata_what), (0, sl v n (strs d.texts) 1)]) ?_ ?_
  · have hbt : (!dec (W.texts = dec (0 < (n : Int)))) = true ↔ ¬ (W.texts = true ↔ d.texts ≠ []) := by
      rw [ne_eq, htx]
      cases W.texts <;> simp [dec_eq] <;> omega
    repeat' (first | refine Step.out ?_ | refine And.intro (fun h => ?_) (fun h => ?_) | intro _ | refine GW.i64 (by omega) ?_ | refine GW.u32 (by omega) ?_ | refine GW.u64 (by omega) ?_ | refine GW.u8 (by omega) ?_ | refine GW.u16 (by omega) ?_ | refine And.intro rfl ?_ | refine And.intro (by assumption) ?_ | refine And.intro (by omega) ?_ | refine And.intro (by simp only [List.length_append, List.length_replicate, List.length_drop, List.length_take, List.length_cons, List.length_nil, u8s_len, be_length]; omega) ?_ | fail)
    all_goals refine ⟨_, ?_, rfl, ‹_›⟩
    all_goals clear hA2 hsl
    all_goals first | (rw [hbt]; grind) | grind
  · rintro ρ w ⟨q1, hq1, hs, hA⟩
    clear hA2
    simp only [pick, List.cons.injEq, and_true] at hs
    obtain ⟨h0, h1, h2⟩ := hs
    simp only [h0, h1, h2]
    repeat' (first | refine Step.out ?_ | refine And.intro (fun h => ?_) (fun h => ?_) | intro _ | refine GW.i64 (by omega) ?_ | refine GW.u32 (by omega) ?_ | refine GW.u64 (by omega) ?_ | refine GW.u8 (by omega) ?_ | refine GW.u16 (by omega) ?_ | refine And.intro rfl ?_ | refine And.intro (by assumption) ?_ | refine And.intro (by omega) ?_ | refine And.intro (by simp only [List.length_append, List.length_replicate, List.length_drop, List.length_take, List.length_cons, List.length_nil, u8s_len, be_length]; omega) ?_ | fail)
    · have hq := hq1.1 (by assumption)
      refine ⟨_, ⟨⟨false, rfl, fun h => (by cases h), fun hb => ?_⟩, rfl⟩, At.emp ‹_›⟩
      rcases hq with h | h | h | h
      · exact absurd (hb.name h.1) h.2
      · exact absurd (hb.mail h.1) h.2
      · exact absurd (hb.raw h.1) h.2
      · exact absurd hb.texts h
    have hn1 : ¬ _ := fun h => ‹¬ q1 = true› (hq1.2 h)
    clear hq1 h0 h1 h2
    rename_i hq1
    clear hq1
    refine cutL (fun s w => ∃ q : Bool, (q = true ↔ (W.addr = 0 ∧ d.addr ≠ ⟨false, 0, 0⟩)) ∧
      s = [ptr b1, ptr b2, .bool q] ∧ At w0 F w [(b2, cells (daC d v) Y_api_Data), (b1, cells (whC W) Y_rdata_what), (0, sl v n (strs d.texts) 1)]) ?_ ?_
    · have had : (!(dec (d.addr.six = false) && (dec ((d.addr.hi : Int) = 0) && dec ((d.addr.lo : Int) = 0)))) = true ↔ d.addr ≠ ⟨false, 0, 0⟩ := by
        obtain ⟨six, hi, lo⟩ := d.addr
        cases six <;> simp [dec_eq] <;> omega
      repeat' (first | refine Step.out ?_ | refine And.intro (fun h => ?_) (fun h => ?_) | intro _ | refine GW.i64 (by omega) ?_ | refine GW.u32 (by omega) ?_ | refine GW.u64 (by omega) ?_ | refine GW.u8 (by omega) ?_ | refine GW.u16 (by omega) ?_ | refine And.intro rfl ?_ | refine And.intro (by assumption) ?_ | refine And.intro (by omega) ?_ | refine And.intro (by simp only [List.length_append, List.length_replicate, List.length_drop, List.length_take, List.length_cons, List.length_nil, u8s_len, be_length]; omega) ?_ | fail)
      all_goals refine ⟨_, ?_, rfl, ‹_›⟩
      all_goals clear hA hsl
      all_goals first | (rw [had]; grind) | grind
    · rintro ρ w ⟨q2, hq2, hs, hA⟩
      simp only [pick, List.cons.injEq, and_true] at hs
      obtain ⟨h0, h1, h2⟩ := hs
      simp only [h0, h1, h2]
      repeat' (first | refine Step.out ?_ | refine And.intro (fun h => ?_) (fun h => ?_) | intro _ | refine GW.i64 (by omega) ?_ | refine GW.u32 (by omega) ?_ | refine GW.u64 (by omega) ?_ | refine GW.u8 (by omega) ?_ | refine GW.u16 (by omega) ?_ | refine And.intro rfl ?_ | refine And.intro (by assumption) ?_ | refine And.intro (by omega) ?_ | refine And.intro (by simp only [List.length_append, List.length_replicate, List.length_drop, List.length_take, List.length_cons, List.length_nil, u8s_len, be_length]; omega) ?_ | fail)
      · have hq := hq2.1 (by assumption)
        refine ⟨_, ⟨⟨false, rfl, fun h => (by cases h), fun hb => ?_⟩, rfl⟩, At.emp ‹_›⟩
        exact absurd (hb.noaddr hq.1) hq.2
      have hn2 : ¬ (W.addr = 0 ∧ d.addr ≠ ⟨false, 0, 0⟩) := fun h => ‹¬ q2 = true› (hq2.2 h)
      clear hq2 h0 h1 h2
      refine cutL (fun s w => ∃ q : Bool, (q = true ↔ (0 < W.addr ∧ ¬ (adChk d.addr = 0 ∧ (d.addr.six = true ↔ W.addr = 16)))) ∧
        s = [ptr b1, ptr b2, .bool q] ∧ At w0 F w [(b2, cells (daC d v) Y_api_Data), (b1, cells (whC W) Y_rdata_what), (0, sl v n (strs d.texts) 1)]) ?_ ?_
      · have hsx : (!dec (d.addr.six = dec (W.addr = 16))) = true ↔ ¬ (d.addr.six = true ↔ W.addr = 16) := by
          cases d.addr.six <;> simp [dec_eq]
        have hoa := hd.addr
        repeat' (first | refine Step.out ?_ | refine And.intro (fun h => ?_) (fun h => ?_) | intro _ | refine GW.i64 (by omega) ?_ | refine GW.u32 (by omega) ?_ | refine GW.u64 (by omega) ?_ | refine GW.u8 (by omega) ?_ | refine GW.u16 (by omega) ?_ | refine And.intro rfl ?_ | refine And.intro (by assumption) ?_ | refine And.intro (by omega) ?_ | refine And.intro (by simp only [List.length_append, List.length_replicate, List.length_drop, List.length_take, List.length_cons, List.length_nil, u8s_len, be_length]; omega) ?_ | fail)
        all_goals refine ⟨_, ?_, rfl, ‹_›⟩
        all_goals clear hA hsl
        all_goals first | (rw [hsx]; grind) | grind
      · rintro ρ w ⟨q3, hq3, hs, hA⟩
        simp only [pick, List.cons.injEq, and_true] at hs
        obtain ⟨h0, h1, h2⟩ := hs
        simp only [h0, h1, h2]
        repeat' (first | refine Step.out ?_ | refine And.intro (fun h => ?_) (fun h => ?_) | intro _ | refine GW.i64 (by omega) ?_ | refine GW.u32 (by omega) ?_ | refine GW.u64 (by omega) ?_ | refine GW.u8 (by omega) ?_ | refine GW.u16 (by omega) ?_ | refine And.intro rfl ?_ | refine And.intro (by assumption) ?_ | refine And.intro (by omega) ?_ | refine And.intro (by simp only [List.length_append, List.length_replicate, List.length_drop, List.length_take, List.length_cons, List.length_nil, u8s_len, be_length]; omega) ?_ | fail)
        · have hq := hq3.1 (by assumption)
          refine ⟨_, ⟨⟨false, rfl, fun h => (by cases h), fun hb => ?_⟩, rfl⟩, At.emp ‹_›⟩
          exact absurd (hb.addr hq.1) hq.2
        have hn3 : ¬ (0 < W.addr ∧ ¬ (adChk d.addr = 0 ∧ (d.addr.six = true ↔ W.addr = 16))) := fun h => ‹¬ q3 = true› (hq3.2 h)
        clear hq3 h0 h1 h2
        refine loopN (fun k s w => ∃ i : Nat, i + k = 5 ∧ (∀ j : Nat, j < i → (W.nums ≤ j → d.num j = 0) ∧ (W.wide = 2 → d.num j ≤ 65535)) ∧
          s = [ptr b1, .agg #[.int .u32 d.n0, .int .u32 d.n1, .int .u32 d.n2, .int .u32 d.n3, .int .u32 d.n4], .int .i64 i] ∧
          At w0 F w [(b2, cells (daC d v) Y_api_Data), (b1, cells (whC W) Y_rdata_what), (0, sl v n (strs d.texts) 1)]) 5 ⟨0, by omega, fun j h => (by omega), rfl, ‹_›⟩ ?_
        rintro k ρ w ⟨i, hi, hpre, hs, hA⟩
        simp only [pick, List.cons.injEq, and_true] at hs
        obtain ⟨h0, h1, h2⟩ := hs
        simp only [h0, h1, h2]
        repeat' (first | refine Step.out ?_ | refine And.intro (fun h => ?_) (fun h => ?_) | intro _ | refine GW.i64 (by omega) ?_ | refine GW.u32 (by omega) ?_ | refine GW.u64 (by omega) ?_ | refine GW.u8 (by omega) ?_ | refine GW.u16 (by omega) ?_ | refine And.intro rfl ?_ | refine And.intro (by assumption) ?_ | refine And.intro (by omega) ?_ | refine And.intro (by simp only [List.length_append, List.length_replicate, List.length_drop, List.length_take, List.length_cons, List.length_nil, u8s_len, be_length]; omega) ?_ | fail)
        · rw [nums_get d (by omega)]
          refine cutL (fun s w => ∃ q : Bool, (q = true ↔ ((W.nums ≤ i ∧ d.num i ≠ 0) ∨ (W.wide = 2 ∧ 65535 < d.num i))) ∧
            s = [ptr b1, .agg #[.int .u32 d.n0, .int .u32 d.n1, .int .u32 d.n2, .int .u32 d.n3, .int .u32 d.n4], .int .i64 i, .bool q] ∧
            At w0 F w [(b2, cells (daC d v) Y_api_Data), (b1, cells (whC W) Y_rdata_what), (0, sl v n (strs d.texts) 1)]) ?_ ?_
          · have hgt : dec ((65535 : Int) < (d.num i : Nat)) = true ↔ 65535 < d.num i := by rw [dec_iff]; omega
            repeat' (first | refine Step.out ?_ | refine And.intro (fun h => ?_) (fun h => ?_) | intro _ | refine GW.i64 (by omega) ?_ | refine GW.u32 (by omega) ?_ | refine GW.u64 (by omega) ?_ | refine GW.u8 (by omega) ?_ | refine GW.u16 (by omega) ?_ | refine And.intro rfl ?_ | refine And.intro (by assumption) ?_ | refine And.intro (by omega) ?_ | refine And.intro (by simp only [List.length_append, List.length_replicate, List.length_drop, List.length_take, List.length_cons, List.length_nil, u8s_len, be_length]; omega) ?_ | fail)
            all_goals refine ⟨_, ?_, rfl, ‹_›⟩
            all_goals clear hA hsl
            all_goals first | (rw [hgt]; omega) | omega | (simp; omega)
          · rintro ρ w ⟨q4, hq4, hs, hA⟩
            simp only [pick, List.cons.injEq, and_true] at hs
            obtain ⟨h0, h1, h2, h3⟩ := hs
            simp only [h0, h1, h2, h3]
            repeat' (first | refine Step.out ?_ | refine And.intro (fun h => ?_) (fun h => ?_) | intro _ | refine GW.i64 (by omega) ?_ | refine GW.u32 (by omega) ?_ | refine GW.u64 (by omega) ?_ | refine GW.u8 (by omega) ?_ | refine GW.u16 (by omega) ?_ | refine And.intro rfl ?_ | refine And.intro (by assumption) ?_ | refine And.intro (by omega) ?_ | refine And.intro (by simp only [List.length_append, List.length_replicate, List.length_drop, List.length_take, List.length_cons, List.length_nil, u8s_len, be_length]; omega) ?_ | fail)
            · have hq := hq4.1 (by assumption)
              refine ⟨_, ⟨⟨false, rfl, fun h => (by cases h), fun hb => ?_⟩, rfl⟩, At.emp ‹_›⟩
              have := hb.nums i (by omega)
              rcases hq with h | h
              · exact absurd (this.1 h.1) h.2
              · have := this.2 h.1; omega
            · have hn4 : ¬ ((W.nums ≤ i ∧ d.num i ≠ 0) ∨ (W.wide = 2 ∧ 65535 < d.num i)) := fun h => ‹¬ q4 = true› (hq4.2 h)
              refine ⟨k - 1, by omega, i + 1, by omega, fun j hj => ?_, by simp, ‹_›⟩
              by_cases hji : j = i
              · subst hji
                exact ⟨fun h => Decidable.byContradiction fun h' => hn4 (.inl ⟨h, h'⟩), fun h => Nat.le_of_not_lt fun h' => hn4 (.inr ⟨h, h'⟩)⟩
              · exact hpre j (by omega)
        · have h5 : i = 5 := by omega
          subst h5
          refine ⟨_, ⟨⟨true, rfl, fun _ => ?_, fun _ => rfl⟩, rfl⟩, At.emp ‹_›⟩
          clear hA hsl
          simp only [not_or, not_and, Decidable.not_not] at hn1 hn2 hn3
          refine ⟨fun h => ?_, fun h => ?_, fun h => ?_, ?_, fun h => ?_, fun h => ?_, fun j hj => hpre j hj⟩
          all_goals first | exact hn1.1 h | exact hn1.2.1 h | exact hn1.2.2.1 h | exact hn1.2.2.2 | exact hn2 h | exact hn3 h | grind
end
end Go.Proofs.Ytkpinncakbnikaa
namespace Go.Proofs.Ytkpinncakbnikaa
open Go Np Go.Proofs
set_option linter.all false
set_option maxRecDepth 20000
section
variable {w0 w : World} {F : Fp} {L L' : List (Nat × Ent)} {b : Nat} {K : Value → World → Prop} {W : What} {d : Dat} {v : Value} {n : Nat} {t : Int}
instance [h : At w0 F w L] [r : HasS L v n (strs d.texts) 1] : Step (Gv Try.prog F_rdata_what_bare #[whV W, daV d v] w K) ((OkW W ∧ OkD d) ∧ ∀ q w', (q = true ↔ Bare W d) → At w0 F w' L → K (.bool q) w') := ⟨fun ⟨⟨h1, h2⟩, hk⟩ =>
  Ct.readS (φ := fun u => ∃ q : Bool, u = .bool q ∧ (q = true ↔ Bare W d)) (c_bare h1 h2) h r fun u w' hu hA => by
    obtain ⟨q, rfl, hq⟩ := hu
    exact hk _ _ hq hA⟩
theorem c_check (hd : OkD d) : Ct Try.prog F_rdata_check #[.int .i64 t, daV d v] [(0, sl v n (strs d.texts) 1)] fun u B => u = .int .i64 (ckD t d) ∧ B = [] := by
  intro w0 F w hA
  have hsl : SlG v n := hA.slG inferInstance
  have hln : d.texts.length = n := by have := hA.slLen (inferInstance : HasS _ v n (strs d.texts) 1); simpa [strs] using this
  have hw := whatOf_ok t
  have hwd : OkW (whatOf t) ∧ OkD d := ⟨hw, hd⟩
  have hnb : n ≤ 1099511627776 := by have := hd.texts; omega
  refine ok_rdata_check ?_
  unfold T_rdata_check
  refine Step.out ?_
  intro b1 w1 hA1
  clear hA
  refine cutL (fun s w => ∃ q : Bool, (q = true ↔ (¬ mayT t ∨ ¬ Bare (whatOf t) d)) ∧ s = [ptr b1, .bool q] ∧ At w0 F w [(b1, cells (daC d v) Y_api_Data), (0, sl v n (strs d.texts) 1)]) ?_ ?_
  · repeat' (first | refine Step.out ?_ | refine And.intro (fun h => ?_) (fun h => ?_) | intro _ | refine GW.i64 (by omega) ?_ | refine GW.u32 (by omega) ?_ | refine GW.u64 (by omega) ?_ | refine GW.u8 (by omega) ?_ | refine GW.u16 (by omega) ?_ | refine And.intro rfl ?_ | refine And.intro (by assumption) ?_ | refine And.intro (by omega) ?_ | refine And.intro (by simp only [List.length_append, List.length_replicate, List.length_drop, List.length_take, List.length_cons, List.length_nil, u8s_len, be_length]; omega) ?_ | fail)
    all_goals refine ⟨_, ?_, rfl, ‹_›⟩
    all_goals grind
  · rintro ρ w ⟨q1, hq1, hs, hA⟩
    clear hA1
    simp only [pick, List.cons.injEq, and_true] at hs
    obtain ⟨h0, h1⟩ := hs
    simp only [h0, h1]
    repeat' (first | refine Step.out ?_ | refine And.intro (fun h => ?_) (fun h => ?_) | intro _ | refine GW.i64 (by omega) ?_ | refine GW.u32 (by omega) ?_ | refine GW.u64 (by omega) ?_ | refine GW.u8 (by omega) ?_ | refine GW.u16 (by omega) ?_ | refine And.intro rfl ?_ | refine And.intro (by assumption) ?_ | refine And.intro (by omega) ?_ | refine And.intro (by simp only [List.length_append, List.length_replicate, List.length_drop, List.length_take, List.length_cons, List.length_nil, u8s_len, be_length]; omega) ?_ | fail)
    · have e : ckD t d = 2 := by unfold ckD; rw [if_pos (hq1.1 (by assumption))]
      rw [e]; exact ⟨_, ⟨rfl, rfl⟩, At.emp ‹_›⟩
    have hn1 : ¬ (¬ mayT t ∨ ¬ Bare (whatOf t) d) := fun h => ‹¬ q1 = true› (hq1.2 h)
    rename_i bs w2 hA2
    have hnm := hd.name
    have hml := hd.mail
    refine loopN (fun k s w => ∃ i : Nat, i + k = 2 ∧ (1 ≤ i → chkN d.name = 0) ∧ (2 ≤ i → chkN d.mail = 0) ∧
      s = [ptr b1, .slice (some ⟨bs, 0, none⟩) 2 2, .int .i64 2, .int .i64 i] ∧
      At w0 F w [(bs, own (.slice (some ⟨bs, 0, none⟩) 2 2) 2 [str d.name, str d.mail] Y_api_Name 1), (b1, cells (daC d v) Y_api_Data), (0, sl v n (strs d.texts) 1)]) 2 ⟨0, by omega, by omega, by omega, rfl, hA2⟩ ?_
    rintro k ρ w ⟨i, hi, hp1, hp2, hs, hA⟩
    clear hA2
    simp only [pick, List.cons.injEq, and_true] at hs
    obtain ⟨h0, h1, h2, h3⟩ := hs
    simp only [h0, h1, h2, h3]
    have : i = 0 ∨ i = 1 ∨ i = 2 := by omega
    rcases this with rfl | rfl | rfl
    · repeat' (first | refine Step.out ?_ | refine And.intro (fun h => ?_) (fun h => ?_) | intro _ | refine GW.i64 (by omega) ?_ | refine GW.u32 (by omega) ?_ | refine GW.u64 (by omega) ?_ | refine GW.u8 (by omega) ?_ | refine GW.u16 (by omega) ?_ | refine And.intro rfl ?_ | refine And.intro (by assumption) ?_ | refine And.intro (by omega) ?_ | refine And.intro (by simp only [List.length_append, List.length_replicate, List.length_drop, List.length_take, List.length_cons, List.length_nil, u8s_len, be_length]; omega) ?_ | fail)
      · rw [show [str d.name, str d.mail].getD (0 + ((0 : Nat) : Int).toNat * 1) undef = str d.name from rfl]
        repeat' (first | refine Step.out ?_ | refine And.intro (fun h => ?_) (fun h => ?_) | intro _ | refine GW.i64 (by omega) ?_ | refine GW.u32 (by omega) ?_ | refine GW.u64 (by omega) ?_ | refine GW.u8 (by omega) ?_ | refine GW.u16 (by omega) ?_ | refine And.intro rfl ?_ | refine And.intro (by assumption) ?_ | refine And.intro (by omega) ?_ | refine And.intro (by simp only [List.length_append, List.length_replicate, List.length_drop, List.length_take, List.length_cons, List.length_nil, u8s_len, be_length]; omega) ?_ | fail)
        · have e : ckD t d = chkN d.name := by unfold ckD; rw [if_neg hn1, if_pos (by assumption)]
          rw [e]; exact ⟨_, ⟨rfl, rfl⟩, At.emp ‹_›⟩
        · exact ⟨1, by omega, 1, by omega, fun _ => by omega, by omega, by simp, ‹_›⟩
      all_goals (exfalso; omega)
    · repeat' (first | refine Step.out ?_ | refine And.intro (fun h => ?_) (fun h => ?_) | intro _ | refine GW.i64 (by omega) ?_ | refine GW.u32 (by omega) ?_ | refine GW.u64 (by omega) ?_ | refine GW.u8 (by omega) ?_ | refine GW.u16 (by omega) ?_ | refine And.intro rfl ?_ | refine And.intro (by assumption) ?_ | refine And.intro (by omega) ?_ | refine And.intro (by simp only [List.length_append, List.length_replicate, List.length_drop, List.length_take, List.length_cons, List.length_nil, u8s_len, be_length]; omega) ?_ | fail)
      · rw [show [str d.name, str d.mail].getD (0 + ((1 : Nat) : Int).toNat * 1) undef = str d.mail from rfl]
        repeat' (first | refine Step.out ?_ | refine And.intro (fun h => ?_) (fun h => ?_) | intro _ | refine GW.i64 (by omega) ?_ | refine GW.u32 (by omega) ?_ | refine GW.u64 (by omega) ?_ | refine GW.u8 (by omega) ?_ | refine GW.u16 (by omega) ?_ | refine And.intro rfl ?_ | refine And.intro (by assumption) ?_ | refine And.intro (by omega) ?_ | refine And.intro (by simp only [List.length_append, List.length_replicate, List.length_drop, List.length_take, List.length_cons, List.length_nil, u8s_len, be_length]; omega) ?_ | fail)
        · have e : ckD t d = chkN d.mail := by unfold ckD; rw [if_neg hn1, if_neg (by omega), if_pos (by assumption)]
          rw [e]; exact ⟨_, ⟨rfl, rfl⟩, At.emp ‹_›⟩
        · exact ⟨0, by omega, 2, by omega, fun _ => by omega, fun _ => by omega, by simp, ‹_›⟩
      all_goals (exfalso; omega)
    · repeat' (first | refine Step.out ?_ | refine And.intro (fun h => ?_) (fun h => ?_) | intro _ | refine GW.i64 (by omega) ?_ | refine GW.u32 (by omega) ?_ | refine GW.u64 (by omega) ?_ | refine GW.u8 (by omega) ?_ | refine GW.u16 (by omega) ?_ | refine And.intro rfl ?_ | refine And.intro (by assumption) ?_ | refine And.intro (by omega) ?_ | refine And.intro (by simp only [List.length_append, List.length_replicate, List.length_drop, List.length_take, List.length_cons, List.length_nil, u8s_len, be_length]; omega) ?_ | fail)
      · exfalso; omega
      · have hc := ‹_ = true ↔ ∃ x, x ∈ d.texts ∧ 255 < List.length x›
        have c1 := hp1 (by decide)
        have c2 := hp2 (by decide)
        have e : ckD t d = 3 := by unfold ckD; rw [if_neg hn1, if_neg (fun h => h c1), if_neg (fun h => h c2), if_pos (hc.1 (by assumption))]
        rw [e]; exact ⟨_, ⟨rfl, rfl⟩, At.emp ‹_›⟩
      · have hc := ‹_ = true ↔ ∃ x, x ∈ d.texts ∧ 255 < List.length x›
        have c1 := hp1 (by decide)
        have c2 := hp2 (by decide)
        have e : ckD t d = 0 := by unfold ckD; rw [if_neg hn1, if_neg (fun h => h c1), if_neg (fun h => h c2), if_neg (fun h => absurd (hc.2 h) (by assumption))]
        rw [e]; exact ⟨_, ⟨rfl, rfl⟩, At.emp ‹_›⟩
instance [h : At w0 F w L] [r : HasS L v n (strs d.texts) 1] : Step (Gv Try.prog F_rdata_check #[.int .i64 t, daV d v] w K) (OkD d ∧ ∀ w', At w0 F w' L → K (.int .i64 (ckD t d)) w') := ⟨fun ⟨h2, hk⟩ =>
  Ct.readS (φ := fun u => u = .int .i64 (ckD t d)) (c_check h2) h r fun u w' hu hA => by
    rw [hu]; exact hk _ hA⟩

theorem sizeN_le {x : By} (h : x.length ≤ 1048576) : 0 ≤ sizeN x ∧ sizeN x ≤ 1048577 := by
  unfold sizeN; split <;> omega
theorem names_get (x y : By) {i : Nat} (h : i < 2) : [str x, str y].getD (0 + (i : Int).toNat * 1) undef = str ([x, y].getD i []) := by
  have : i = 0 ∨ i = 1 := by omega
  rcases this with rfl | rfl <;> rfl
theorem sum_take {α : Type} (f : α → Int) (l : List α) (z : α) {i : Nat} (h : i < l.length) : ((l.take (i + 1)).map f).sum = ((l.take i).map f).sum + f (l.getD i z) := by
  rw [List.take_succ_eq_append_getElem h, List.map_append, List.sum_append]
  simp only [List.map_cons, List.map_nil, List.sum_cons, List.sum_nil, Int.add_zero, List.getD_eq_getElem?_getD, List.getElem?_eq_getElem h, Option.getD_some]
theorem sum_le {α : Type} (f : α → Int) (l : List α) (m : Int) (h : ∀ x ∈ l, 0 ≤ f x ∧ f x ≤ m) : 0 ≤ (l.map f).sum ∧ (l.map f).sum ≤ l.length * m := by
  induction l with
  | nil => simp
  | cons x l ih =>
    have h1 := h x (by simp)
    have h2 := ih fun y hy => h y (by simp [hy])
    simp only [List.map_cons, List.sum_cons, List.length_cons]
    have : ((l.length + 1 : Nat) : Int) * m = l.length * m + m := by rw [Int.natCast_add, Int.add_mul]; simp
    omega
theorem c_size {hW : OkW W} (hd : OkD d) : Ct Try.prog F_rdata_what_size #[whV W, daV d v] [(0, sl v n (strs d.texts) 1)] fun u B => u = .int .i64 (szW W d) ∧ B = [] := by
  intro w0 F w hA
  have hsl : SlG v n := hA.slG inferInstance
  have hln : d.texts.length = n := by have := hA.slLen (inferInstance : HasS _ v n (strs d.texts) 1); simpa [strs] using this
  obtain ⟨wa, wn, wnu, ww⟩ := hW
  have hmul : 0 ≤ W.nums * W.wide ∧ W.nums * W.wide ≤ 20 := by
    have : W.nums = 0 ∨ W.nums = 1 ∨ W.nums = 2 ∨ W.nums = 3 ∨ W.nums = 4 ∨ W.nums = 5 := by omega
    rcases this with h | h | h | h | h | h <;> rw [h] <;> omega
  have hraw := hd.raw
  refine ok_rdata_what_size ?_
  unfold T_rdata_what_size
  repeat' (first | refine Step.out ?_ | refine And.intro (fun h => ?_) (fun h => ?_) | intro _ | refine GW.i64 (by omega) ?_ | refine GW.u32 (by omega) ?_ | refine GW.u64 (by omega) ?_ | refine GW.u8 (by omega) ?_ | refine GW.u16 (by omega) ?_ | refine And.intro rfl ?_ | refine And.intro (by assumption) ?_ | refine And.intro (by omega) ?_ | refine And.intro (by simp only [List.length_append, List.length_replicate, List.length_drop, List.length_take, List.length_cons, List.length_nil, u8s_len, be_length]; omega) ?_ | fail)
  rename_i b1 w1 hA1 b2 w2 hA2 bs w3 hA3
  clear hA1 hA2 hA
  have hnm := hd.name
  have hml := hd.mail
  obtain ⟨N, hN⟩ : ∃ N : Nat, W.names = N := ⟨W.names.toNat, by omega⟩
  have hno : namesOf W d = [d.name, d.mail].take N := by rw [namesOf, hN, Int.toNat_natCast]
  have hN2 : N ≤ 2 := by omega
  rw [hN]
  simp only [Int.toNat_natCast]
  have hnl : ([d.name, d.mail].take N).length = N := by simp; omega
  have hsz : ∀ x ∈ [d.name, d.mail].take N, 0 ≤ sizeN x ∧ sizeN x ≤ 1048577 := fun x hx => by
    have := List.mem_of_mem_take hx
    simp only [List.mem_cons, List.not_mem_nil, or_false] at this
    rcases this with rfl | rfl
    · exact sizeN_le hnm
    · exact sizeN_le hml
  refine loopN (fun k s w => ∃ i : Nat, i + k = N ∧
      s = [ptr b2, .int .i64 (W.addr + W.nums * W.wide + d.raw.length + ((([d.name, d.mail].take N).take i).map sizeN).sum), .slice (some ⟨bs, 0, none⟩) N 2, .int .i64 N, .int .i64 i] ∧
      At w0 F w [(bs, own (.slice (some ⟨bs, 0, none⟩) 2 2) 2 [str d.name, str d.mail] Y_api_Name 1), (b2, cells (daC d v) Y_api_Data), (b1, cells (whC W) Y_rdata_what), (0, sl v n (strs d.texts) 1)]) N ⟨0, by omega, by simp, hA3⟩ ?_
  rintro k ρ w ⟨i, hi, hs, hA⟩
  simp only [pick, List.cons.injEq, and_true] at hs
  obtain ⟨h0, h1, h2, h3, h4⟩ := hs
  simp only [h0, h1, h2, h3, h4]
  have hb1 := sum_le sizeN (([d.name, d.mail].take N).take i) 1048577 (fun x hx => hsz x (List.mem_of_mem_take hx))
  have hb2 : ((([d.name, d.mail].take N).take i).length : Int) ≤ 2 := by simp; omega
  have hgd : ∀ i, i < N → ([d.name, d.mail].take N).getD i [] = [d.name, d.mail].getD i [] := fun i hi => by
    simp [List.getD_eq_getElem?_getD, List.getElem?_take, hi]
  have hgl : i < 2 → ([d.name, d.mail].getD i []).length ≤ 1048576 := fun hi => by
    have : i = 0 ∨ i = 1 := by omega
    rcases this with rfl | rfl
    · exact hnm
    · exact hml
  repeat' (first | refine Step.out ?_ | refine And.intro (fun h => ?_) (fun h => ?_) | intro _ | refine GW.i64 (by omega) ?_ | refine GW.u32 (by omega) ?_ | refine GW.u64 (by omega) ?_ | refine GW.u8 (by omega) ?_ | refine GW.u16 (by omega) ?_ | refine And.intro rfl ?_ | refine And.intro (by assumption) ?_ | refine And.intro (by omega) ?_ | refine And.intro (by simp only [List.length_append, List.length_replicate, List.length_drop, List.length_take, List.length_cons, List.length_nil, u8s_len, be_length]; omega) ?_ | fail)
  · rw [names_get _ _ (by omega)]
    have hgl := hgl (by omega)
    have hsz2 := sizeN_le hgl
    repeat' (first | refine Step.out ?_ | refine And.intro (fun h => ?_) (fun h => ?_) | intro _ | refine GW.i64 (by omega) ?_ | refine GW.u32 (by omega) ?_ | refine GW.u64 (by omega) ?_ | refine GW.u8 (by omega) ?_ | refine GW.u16 (by omega) ?_ | refine And.intro rfl ?_ | refine And.intro (by assumption) ?_ | refine And.intro (by omega) ?_ | refine And.intro (by simp only [List.length_append, List.length_replicate, List.length_drop, List.length_take, List.length_cons, List.length_nil, u8s_len, be_length]; omega) ?_ | fail)
    refine ⟨k - 1, by omega, i + 1, by omega, ?_, ‹_›⟩
    rw [sum_take sizeN _ [] (by omega), hgd i (by omega)]
    simp only [List.cons.injEq, Value.int.injEq, true_and, and_true]
    omega
  · have hiN : i = N := by omega
    subst hiN
    have e5 : ([d.name, d.mail].take i).take i = [d.name, d.mail].take i := List.take_of_length_le (by omega)
    rw [e5] at hb1 hb2
    simp only [e5]
    rw [szW, hno]
    have heach := hd.each
    have htl := hd.texts
    refine loopN (fun k s w => ∃ j : Nat, j + k = n ∧
      s = [.int .i64 (W.addr + W.nums * W.wide + d.raw.length + (([d.name, d.mail].take i).map sizeN).sum + ((d.texts.take j).map fun x => (1 + x.length : Int)).sum), v, .int .i64 n, .int .i64 j] ∧
      At w0 F w [(bs, own (.slice (some ⟨bs, 0, none⟩) 2 2) 2 [str d.name, str d.mail] Y_api_Name 1), (b2, cells (daC d v) Y_api_Data), (b1, cells (whC W) Y_rdata_what), (0, sl v n (strs d.texts) 1)]) n ⟨0, by omega, by simp, ‹_›⟩ ?_
    rintro k ρ w ⟨j, hj, hs, hA⟩
    simp only [pick, List.cons.injEq, and_true] at hs
    obtain ⟨h0, h1, h2, h3⟩ := hs
    simp only [h0, h1, h2, h3]
    have hb3 := sum_le (fun x : By => (1 + x.length : Int)) (d.texts.take j) 1048577 (fun x hx => by have := heach x (List.mem_of_mem_take hx); omega)
    have hb4 : ((d.texts.take j).length : Int) ≤ 1048576 := by simp; omega
    have hb5 : j < n → (d.texts.getD j []).length ≤ 1048576 := fun h => heach _ (by rw [List.getD_eq_getElem?_getD, List.getElem?_eq_getElem (by omega)]; simp)
    repeat' (first | refine Step.out ?_ | refine And.intro (fun h => ?_) (fun h => ?_) | intro _ | refine GW.i64 (by omega) ?_ | refine GW.u32 (by omega) ?_ | refine GW.u64 (by omega) ?_ | refine GW.u8 (by omega) ?_ | refine GW.u16 (by omega) ?_ | refine And.intro rfl ?_ | refine And.intro (by assumption) ?_ | refine And.intro (by omega) ?_ | refine And.intro (by simp only [List.length_append, List.length_replicate, List.length_drop, List.length_take, List.length_cons, List.length_nil, u8s_len, be_length]; omega) ?_ | fail)
    · rw [Int.toNat_natCast]
      have hb5 := hb5 (by omega)
      repeat' (first | refine Step.out ?_ | refine And.intro (fun h => ?_) (fun h => ?_) | intro _ | refine GW.i64 (by omega) ?_ | refine GW.u32 (by omega) ?_ | refine GW.u64 (by omega) ?_ | refine GW.u8 (by omega) ?_ | refine GW.u16 (by omega) ?_ | refine And.intro rfl ?_ | refine And.intro (by assumption) ?_ | refine And.intro (by omega) ?_ | refine And.intro (by simp only [List.length_append, List.length_replicate, List.length_drop, List.length_take, List.length_cons, List.length_nil, u8s_len, be_length]; omega) ?_ | fail)
      refine ⟨k - 1, by omega, j + 1, by omega, ?_, ‹_›⟩
      rw [sum_take (fun x : By => (1 + x.length : Int)) _ [] (by omega)]
      simp only [List.cons.injEq, Value.int.injEq, true_and, and_true]
      omega
    · have e6 : d.texts.take j = d.texts := List.take_of_length_le (by omega)
      rw [e6]
      exact ⟨_, ⟨rfl, rfl⟩, At.emp ‹_›⟩
instance [h : At w0 F w L] [r : HasS L v n (strs d.texts) 1] : Step (Gv Try.prog F_rdata_what_size #[whV W, daV d v] w K) ((OkW W ∧ OkD d) ∧ ∀ w', At w0 F w' L → K (.int .i64 (szW W d)) w') := ⟨fun ⟨⟨h1, h2⟩, hk⟩ =>
  Ct.readS (φ := fun u => u = .int .i64 (szW W d)) (c_size (hW := h1) h2) h r fun u w' hu hA => by
    rw [hu]; exact hk _ hA⟩
theorem c_Size (hd : OkD d) : Ct Try.prog F_rdata_Size #[.int .i64 t, daV d v] [(0, sl v n (strs d.texts) 1)] fun u B => u = .int .i64 (szD t d) ∧ B = [] := by
  intro w0 F w hA
  have hsl : SlG v n := hA.slG inferInstance
  have hwd : OkW (whatOf t) ∧ OkD d := ⟨whatOf_ok t, hd⟩
  refine ok_rdata_Size ?_
  unfold T_rdata_Size
  repeat' (first | refine Step.out ?_ | refine And.intro (fun h => ?_) (fun h => ?_) | intro _ | refine GW.i64 (by omega) ?_ | refine GW.u32 (by omega) ?_ | refine GW.u64 (by omega) ?_ | refine GW.u8 (by omega) ?_ | refine GW.u16 (by omega) ?_ | refine And.intro rfl ?_ | refine And.intro (by assumption) ?_ | refine And.intro (by omega) ?_ | refine And.intro (by simp only [List.length_append, List.length_replicate, List.length_drop, List.length_take, List.length_cons, List.length_nil, u8s_len, be_length]; omega) ?_ | fail)
  · rw [szD, if_pos (by assumption)]; exact ⟨_, ⟨rfl, rfl⟩, At.emp ‹_›⟩
  · rw [szD, if_neg (by assumption)]; exact ⟨_, ⟨rfl, rfl⟩, At.emp ‹_›⟩
instance [h : At w0 F w L] [r : HasS L v n (strs d.texts) 1] : Step (Gv Try.prog F_rdata_Size #[.int .i64 t, daV d v] w K) (OkD d ∧ ∀ w', At w0 F w' L → K (.int .i64 (szD t d)) w') := ⟨fun ⟨h2, hk⟩ =>
  Ct.readS (φ := fun u => u = .int .i64 (szD t d)) (c_Size h2) h r fun u w' hu hA => by
    rw [hu]; exact hk _ hA⟩
theorem c_Check (hd : OkD d) : Ct Try.prog F_rdata_Check #[.int .i64 t, daV d v] [(0, sl v n (strs d.texts) 1)] fun u B => u = .int .i64 (chkD t d) ∧ B = [] := by
  intro w0 F w hA
  have hsl : SlG v n := hA.slG inferInstance
  refine ok_rdata_Check ?_
  unfold T_rdata_Check
  repeat' (first | refine Step.out ?_ | refine And.intro (fun h => ?_) (fun h => ?_) | intro _ | refine GW.i64 (by omega) ?_ | refine GW.u32 (by omega) ?_ | refine GW.u64 (by omega) ?_ | refine GW.u8 (by omega) ?_ | refine GW.u16 (by omega) ?_ | refine And.intro rfl ?_ | refine And.intro (by assumption) ?_ | refine And.intro (by omega) ?_ | refine And.intro (by simp only [List.length_append, List.length_replicate, List.length_drop, List.length_take, List.length_cons, List.length_nil, u8s_len, be_length]; omega) ?_ | fail)
  · rw [chkD, if_pos (by assumption)]; exact ⟨_, ⟨rfl, rfl⟩, At.emp ‹_›⟩
  · rw [chkD, if_neg (by assumption), if_pos (by assumption)]; exact ⟨_, ⟨rfl, rfl⟩, At.emp ‹_›⟩
  · rw [chkD, if_neg (by assumption), if_neg (by assumption)]; exact ⟨_, ⟨rfl, rfl⟩, At.emp ‹_›⟩
instance [h : At w0 F w L] [r : HasS L v n (strs d.texts) 1] : Step (Gv Try.prog F_rdata_Check #[.int .i64 t, daV d v] w K) (OkD d ∧ ∀ w', At w0 F w' L → K (.int .i64 (chkD t d)) w') := ⟨fun ⟨h2, hk⟩ =>
  Ct.readS (φ := fun u => u = .int .i64 (chkD t d)) (c_Check h2) h r fun u w' hu hA => by
    rw [hu]; exact hk _ hA⟩
end
end Go.Proofs.Ytkpinncakbnikaa
namespace Go.Proofs.Ytkpinncakbnikaa
open Go Np Go.Proofs
set_option linter.all false
set_option maxRecDepth 20000
section
variable {w0 w : World} {F : Fp} {L L' : List (Nat × Ent)} {b : Nat} {K : Value → World → Prop} {W : What} {d e : Dat} {v u : Value} {n m : Nat} {t : Int} {p : Pk}
theorem Dat.eq_iff (a b : Dat) : a = b ↔ ((a.addr.six = b.addr.six ∧ (a.addr.hi : Int) = b.addr.hi ∧ (a.addr.lo : Int) = b.addr.lo) ∧ a.name = b.name ∧ a.mail = b.mail ∧
    ((a.n0 : Int) = b.n0 ∧ (a.n1 : Int) = b.n1 ∧ (a.n2 : Int) = b.n2 ∧ (a.n3 : Int) = b.n3 ∧ (a.n4 : Int) = b.n4) ∧ a.raw = b.raw ∧ a.texts = b.texts) := by
  obtain ⟨⟨a1, a2, a3⟩, a4, a5, a6, a7, a8, a9, a10, a11, a12⟩ := a
  obtain ⟨⟨b1, b2, b3⟩, b4, b5, b6, b7, b8, b9, b10, b11, b12⟩ := b
  simp only [Dat.mk.injEq, Ad.mk.injEq, Int.natCast_inj]
  grind
instance [h : At w0 F w L] [r : HasS L v n (strs d.texts) 1] [r' : HasS L u m (strs e.texts) 1] : Step (Gv Try.prog F_rdata_Same #[daV d v, daV e u] w K) (n ≤ 1099511627776 ∧ ∀ q w', (q = true ↔ d = e) → At w0 F w' L → K (.bool q) w') := ⟨fun ⟨hn, hk⟩ => by
  refine ok_rdata_Same ?_
  unfold T_rdata_Same
  have hq := Dat.eq_iff d e
  repeat' (first | refine Step.out ?_ | refine And.intro (fun h => ?_) (fun h => ?_) | intro _ | refine GW.i64 (by omega) ?_ | refine GW.u32 (by omega) ?_ | refine GW.u64 (by omega) ?_ | refine GW.u8 (by omega) ?_ | refine GW.u16 (by omega) ?_ | refine And.intro rfl ?_ | refine And.intro (by assumption) ?_ | refine And.intro (by omega) ?_ | refine And.intro (by simp only [List.length_append, List.length_replicate, List.length_drop, List.length_take, List.length_cons, List.length_nil, u8s_len, be_length]; omega) ?_ | fail)
  · exact hk _ _ (by rw [dec_iff, hq]; grind) (At.sb ‹_›)
  all_goals exact hk _ _ (by rw [hq]; grind) (At.sb ‹_›)⟩
end
end Go.Proofs.Ytkpinncakbnikaa
namespace Go.Proofs.Ytkpinncakbnikaa
open Go Np Go.Proofs
set_option linter.all false
set_option maxRecDepth 20000
section
variable {w0 w : World} {F : Fp} {L L' : List (Nat × Ent)} {b bd bw bp : Nat} {K : Value → World → Prop} {W : What} {d e : Dat} {v u : Value} {n m : Nat} {t : Int} {p : Pk}
theorem nums_cell (d : Dat) (v : Value) {i : Nat} (h : i < 5) : (daC d v)[5 + i]? = some (.int .u32 (d.num i : Nat)) := by
  have : i = 0 ∨ i = 1 ∨ i = 2 ∨ i = 3 ∨ i = 4 := by omega
  rcases this with rfl | rfl | rfl | rfl | rfl <;> rfl
theorem c_Put_1 (hW : OkW W) (hd : ∀ i, d.num i ≤ 4294967295) (h : At w0 F w ((bd, cells (daC d v) Y_api_Data) :: (bw, cells (whC W) Y_rdata_what) :: (bp, cells [ptr b] Y_p_pack_Packer) :: (b, packer p) :: L))
    (hk : ∀ w', At w0 F w' ((bd, cells (daC d v) Y_api_Data) :: (bw, cells (whC W) Y_rdata_what) :: (bp, cells [ptr b] Y_p_pack_Packer) :: (b, packer (numsP W d p W.nums.toNat)) :: L) → K (.tuple #[]) w') :
    Gv Try.prog F_rdata_Put_1 #[ptr bd, ptr bw, ptr bp] w K := by
  obtain ⟨wa, wn, wnu, ww⟩ := hW
  refine ok_rdata_Put_1 ?_
  unfold T_rdata_Put_1
  repeat' (first | refine Step.out ?_ | refine And.intro (fun h => ?_) (fun h => ?_) | intro _ | refine GW.i64 (by omega) ?_ | refine GW.u32 (by omega) ?_ | refine GW.u64 (by omega) ?_ | refine GW.u8 (by omega) ?_ | refine GW.u16 (by omega) ?_ | refine And.intro rfl ?_ | refine And.intro (by assumption) ?_ | refine And.intro (by omega) ?_ | refine And.intro (by simp only [List.length_append, List.length_replicate, List.length_drop, List.length_take, List.length_cons, List.length_nil, u8s_len, be_length]; omega) ?_ | fail)
  refine loopN (fun k s w => ∃ i : Nat, i + k = W.nums.toNat ∧ s = [ptr bw, ptr bp, .slice (some ⟨bd, 5, none⟩) W.nums.toNat 5, .int .i64 W.nums.toNat, .int .i64 i] ∧
    At w0 F w ((bd, cells (daC d v) Y_api_Data) :: (bw, cells (whC W) Y_rdata_what) :: (bp, cells [ptr b] Y_p_pack_Packer) :: (b, packer (numsP W d p i)) :: L)) W.nums.toNat ⟨0, by omega, rfl, h⟩ ?_
  rintro k ρ w ⟨i, hi, hs, hA⟩
  clear h
  simp only [pick, List.cons.injEq, and_true] at hs
  obtain ⟨h0, h1, h2, h3, h4⟩ := hs
  simp only [h0, h1, h2, h3, h4]
  repeat' (first | refine Step.out ?_ | refine And.intro (fun h => ?_) (fun h => ?_) | intro _ | refine GW.i64 (by omega) ?_ | refine GW.u32 (by omega) ?_ | refine GW.u64 (by omega) ?_ | refine GW.u8 (by omega) ?_ | refine GW.u16 (by omega) ?_ | refine And.intro rfl ?_ | refine And.intro (by assumption) ?_ | refine And.intro (by omega) ?_ | refine And.intro (by simp only [List.length_append, List.length_replicate, List.length_drop, List.length_take, List.length_cons, List.length_nil, u8s_len, be_length]; omega) ?_ | fail)
  · have hc : w.cell? ⟨bd, 5 + (i : Int).toNat * 1, none⟩ = some (.int .u32 (d.num i : Nat)) := by
      rw [Int.toNat_natCast, Nat.mul_one, hA.cell (cs := daC d v) (T := Y_api_Data) (L' := _) inferInstance, nums_cell d v (by omega)]
    refine ⟨.int .u32 (d.num i : Nat), loadAt_run _ _ (loadVar_sc inferInstance hc), ?_⟩
    have hdi := hd i
    repeat' (first | refine Step.out ?_ | refine And.intro (fun h => ?_) (fun h => ?_) | intro _ | refine GW.i64 (by omega) ?_ | refine GW.u32 (by omega) ?_ | refine GW.u64 (by omega) ?_ | refine GW.u8 (by omega) ?_ | refine GW.u16 (by omega) ?_ | refine And.intro rfl ?_ | refine And.intro (by assumption) ?_ | refine And.intro (by omega) ?_ | refine And.intro (by simp only [List.length_append, List.length_replicate, List.length_drop, List.length_take, List.length_cons, List.length_nil, u8s_len, be_length]; omega) ?_ | fail)
    refine ⟨k - 1, by omega, i + 1, by omega, by simp, ?_⟩
    rw [numsP_succ]
    exact At.pm ‹_›
  · have : i = W.nums.toNat := by omega
    subst this
    exact hk _ hA
instance : HasBody Try.prog F_rdata_Put_1 := ⟨by kernel_rfl⟩
instance : HasBody Try.prog F_pack_Packer_Plain := ⟨by kernel_rfl⟩
instance : HasBody Try.prog F_pack_Packer_Name := ⟨by kernel_rfl⟩
instance {L1 L2 L3 L4 : List (Nat × Ent)} [h : At w0 F w L] [r1 : Rm L bd (cells (daC d v) Y_api_Data) L1] [r2 : Rm L1 bw (cells (whC W) Y_rdata_what) L2] [r3 : Rm L2 bp (cells [ptr b] Y_p_pack_Packer) L3] [r4 : Rm L3 b (packer p) L4] :
    Step (Gv Try.prog F_rdata_Put_1 #[ptr bd, ptr bw, ptr bp] w K) ((OkW W ∧ ∀ i, d.num i ≤ 4294967295) ∧ ∀ w', At w0 F w' ((bd, cells (daC d v) Y_api_Data) :: (bw, cells (whC W) Y_rdata_what) :: (bp, cells [ptr b] Y_p_pack_Packer) :: (b, packer (numsP W d p W.nums.toNat)) :: L4) → K (.tuple #[]) w') :=
  ⟨fun ⟨⟨h1, h2⟩, hk⟩ => c_Put_1 h1 h2 (h.perm (r1.perm.trans ((r2.perm.trans ((r3.perm.trans (r4.perm.cons _)).cons _)).cons _))) hk⟩

theorem adOct_len (a : Ad) : (adOct a).1.length ≤ 16 := by
  unfold adOct; (repeat' split) <;> simp [be_length]
theorem namesP_snoc (W : What) (p : Pk) (l : List By) (x : By) : namesP W p (l ++ [x]) = if W.plain = true then ((namesP W p l).plain x).1 else ((namesP W p l).name x).1 := by simp [namesP]
theorem textsP_snoc (p : Pk) (l : List By) (x : By) : textsP p (l ++ [x]) = (((textsP p l).num x.length 1).1.put x).1 := by simp [textsP]
theorem c_Put (hd : OkD d) : Ct Try.prog F_rdata_Put #[ptr b, .int .i64 t, daV d v] [(b, packer p), (0, sl v n (strs d.texts) 1)] fun u B => u = .int .i64 (putD p t d).2 ∧ B = [(b, packer (putD p t d).1)] := by
  intro w0 F w hA
  have hsl : SlG v n := hA.slG inferInstance
  have hln : d.texts.length = n := by
    have hB : At w0 F w [(0, sl v n (strs d.texts) 1)] := hA.drop
    have := hB.slLen (inferInstance : HasS _ v n (strs d.texts) 1); simpa [strs] using this
  have hW := whatOf_ok t
  have hnum : OkW (whatOf t) ∧ ∀ i, d.num i ≤ 4294967295 := ⟨hW, hd.nums⟩
  refine ok_rdata_Put ?_
  unfold T_rdata_Put
  repeat' (first | refine Step.out ?_ | refine And.intro (fun h => ?_) (fun h => ?_) | intro _ | refine GW.i64 (by omega) ?_ | refine GW.u32 (by omega) ?_ | refine GW.u64 (by omega) ?_ | refine GW.u8 (by omega) ?_ | refine GW.u16 (by omega) ?_ | refine And.intro rfl ?_ | refine And.intro (by assumption) ?_ | refine And.intro (by omega) ?_ | refine And.intro (by simp only [List.length_append, List.length_replicate, List.length_drop, List.length_take, List.length_cons, List.length_nil, u8s_len, be_length]; omega) ?_ | fail)
  · rw [putD, if_pos (by assumption)]; exact ⟨_, ⟨rfl, rfl⟩, At.sb ‹_›⟩
  rw [putD, if_neg (by assumption)]
  simp only
  generalize whatOf t = W at *
  rename_i b1 w1 hA1 b2 w2 hA2 w3 hA3 w4 hA4 b3 w5 hA5 w6 hA6
  clear hA hA1 hA2 hA3 hA4 hA5
  obtain ⟨wa, wn, wnu, ww⟩ := hW
  refine cutL (fun s w => s = [ptr b1, ptr b2, ptr b3] ∧ At w0 F w [(b2, cells (daC d v) Y_api_Data), (b3, cells (whC W) Y_rdata_what), (b1, cells [ptr b] Y_p_pack_Packer), (b, packer (if 0 < W.addr then (p.put (adOct d.addr).1).1 else p)), (0, sl v n (strs d.texts) 1)]) ?_ ?_
  · have hoa := hd.addr
    have hol := adOct_len d.addr
    repeat' (first | refine Step.out ?_ | refine And.intro (fun h => ?_) (fun h => ?_) | intro _ | refine GW.i64 (by omega) ?_ | refine GW.u32 (by omega) ?_ | refine GW.u64 (by omega) ?_ | refine GW.u8 (by omega) ?_ | refine GW.u16 (by omega) ?_ | refine And.intro rfl ?_ | refine And.intro (by assumption) ?_ | refine And.intro (by omega) ?_ | refine And.intro (by simp only [List.length_append, List.length_replicate, List.length_drop, List.length_take, List.length_cons, List.length_nil, u8s_len, be_length]; omega) ?_ | fail)
    · rw [if_pos (by assumption)]; exact At.pm ‹_›
    · rw [if_neg (by assumption)]; exact At.pm ‹_›
  generalize (if 0 < W.addr then (p.put (adOct d.addr).1).1 else p) = p1
  rintro ρ w ⟨hs, hA⟩
  clear hA6
  simp only [pick, List.cons.injEq, and_true] at hs
  obtain ⟨h0, h1, h2⟩ := hs
  simp only [h0, h1, h2]
  repeat' (first | refine Step.out ?_ | refine And.intro (fun h => ?_) (fun h => ?_) | intro _ | refine GW.i64 (by omega) ?_ | refine GW.u32 (by omega) ?_ | refine GW.u64 (by omega) ?_ | refine GW.u8 (by omega) ?_ | refine GW.u16 (by omega) ?_ | refine And.intro rfl ?_ | refine And.intro (by assumption) ?_ | refine And.intro (by omega) ?_ | refine And.intro (by simp only [List.length_append, List.length_replicate, List.length_drop, List.length_take, List.length_cons, List.length_nil, u8s_len, be_length]; omega) ?_ | fail)
  refine cutL (fun s w => s = [ptr b1, ptr b2, ptr b3, .func (.func F_rdata_Put_1) #[] #[ptr b2, ptr b3, ptr b1], .func (.func (if W.plain = true then F_pack_Packer_Plain else F_pack_Packer_Name)) #[ptr b] #[]] ∧
    At w0 F w [(b2, cells (daC d v) Y_api_Data), (b3, cells (whC W) Y_rdata_what), (b1, cells [ptr b] Y_p_pack_Packer), (b, packer p1), (0, sl v n (strs d.texts) 1)]) ?_ ?_
  · repeat' (first | refine Step.out ?_ | refine And.intro (fun h => ?_) (fun h => ?_) | intro _ | refine GW.i64 (by omega) ?_ | refine GW.u32 (by omega) ?_ | refine GW.u64 (by omega) ?_ | refine GW.u8 (by omega) ?_ | refine GW.u16 (by omega) ?_ | refine And.intro rfl ?_ | refine And.intro (by assumption) ?_ | refine And.intro (by omega) ?_ | refine And.intro (by simp only [List.length_append, List.length_replicate, List.length_drop, List.length_take, List.length_cons, List.length_nil, u8s_len, be_length]; omega) ?_ | fail)
    · exact ⟨by rw [if_pos (by assumption)], ‹_›⟩
    · exact ⟨by rw [if_neg (by assumption)], ‹_›⟩
  rintro ρ w ⟨hs, hA⟩
  simp only [pick, List.cons.injEq, and_true] at hs
  obtain ⟨h0, h1, h2, h3, h4⟩ := hs
  simp only [h0, h1, h2, h3, h4]
  refine cutL (fun s w => s = [ptr b1, ptr b2, ptr b3, .func (.func F_rdata_Put_1) #[] #[ptr b2, ptr b3, ptr b1], .func (.func (if W.plain = true then F_pack_Packer_Plain else F_pack_Packer_Name)) #[ptr b] #[]] ∧
    At w0 F w [(b2, cells (daC d v) Y_api_Data), (b3, cells (whC W) Y_rdata_what), (b1, cells [ptr b] Y_p_pack_Packer), (b, packer (if W.numsFirst = true then numsP W d p1 W.nums.toNat else p1)), (0, sl v n (strs d.texts) 1)]) ?_ ?_
  · repeat' (first | refine Step.out ?_ | refine And.intro (fun h => ?_) (fun h => ?_) | intro _ | refine GW.i64 (by omega) ?_ | refine GW.u32 (by omega) ?_ | refine GW.u64 (by omega) ?_ | refine GW.u8 (by omega) ?_ | refine GW.u16 (by omega) ?_ | refine And.intro rfl ?_ | refine And.intro (by assumption) ?_ | refine And.intro (by omega) ?_ | refine And.intro (by simp only [List.length_append, List.length_replicate, List.length_drop, List.length_take, List.length_cons, List.length_nil, u8s_len, be_length]; omega) ?_ | fail)
    · rw [if_pos (by assumption)]; exact At.pm ‹_›
    · rw [if_neg (by assumption)]; exact At.pm ‹_›
  generalize (if W.numsFirst = true then numsP W d p1 W.nums.toNat else p1) = p2
  rintro ρ w ⟨hs, hA⟩
  simp only [pick, List.cons.injEq, and_true] at hs
  obtain ⟨h0, h1, h2, h3, h4⟩ := hs
  simp only [h0, h1, h2, h3, h4]
  repeat' (first | refine Step.out ?_ | refine And.intro (fun h => ?_) (fun h => ?_) | intro _ | refine GW.i64 (by omega) ?_ | refine GW.u32 (by omega) ?_ | refine GW.u64 (by omega) ?_ | refine GW.u8 (by omega) ?_ | refine GW.u16 (by omega) ?_ | refine And.intro rfl ?_ | refine And.intro (by assumption) ?_ | refine And.intro (by omega) ?_ | refine And.intro (by simp only [List.length_append, List.length_replicate, List.length_drop, List.length_take, List.length_cons, List.length_nil, u8s_len, be_length]; omega) ?_ | fail)
  rename_i bs w3 hA3
  clear hA
  obtain ⟨N, hN⟩ : ∃ N : Nat, W.names = N := ⟨W.names.toNat, by omega⟩
  have hN2 : N ≤ 2 := by omega
  have hno : namesOf W d = [d.name, d.mail].take N := by rw [namesOf, hN, Int.toNat_natCast]
  rw [hN, hno]
  simp only [Int.toNat_natCast]
  have hnm := hd.name
  have hml := hd.mail
  have hgl : ∀ i, i < 2 → ([d.name, d.mail].getD i []).length ≤ 1048576 := fun i hi => by
    have : i = 0 ∨ i = 1 := by omega
    rcases this with rfl | rfl
    · exact hnm
    · exact hml
  refine loopN (fun k s w => ∃ i : Nat, i + k = N ∧ s = [ptr b1, ptr b2, ptr b3, .func (.func F_rdata_Put_1) #[] #[ptr b2, ptr b3, ptr b1], .func (.func (if W.plain = true then F_pack_Packer_Plain else F_pack_Packer_Name)) #[ptr b] #[], .slice (some ⟨bs, 0, none⟩) N 2, .int .i64 N, .int .i64 i] ∧
    At w0 F w [(bs, own (.slice (some ⟨bs, 0, none⟩) 2 2) 2 [str d.name, str d.mail] Y_api_Name 1), (b2, cells (daC d v) Y_api_Data), (b3, cells (whC W) Y_rdata_what), (b1, cells [ptr b] Y_p_pack_Packer), (b, packer (namesP W p2 ([d.name, d.mail].take i))), (0, sl v n (strs d.texts) 1)]) N ⟨0, by omega, rfl, hA3⟩ ?_
  rintro k ρ w ⟨i, hi, hs, hA⟩
  clear hA3
  simp only [pick, List.cons.injEq, and_true] at hs
  obtain ⟨h0, h1, h2, h3, h4, h5, h6, h7⟩ := hs
  simp only [h0, h1, h2, h3, h4, h5, h6, h7]
  have hsn : i < 2 → [d.name, d.mail].take (i + 1) = [d.name, d.mail].take i ++ [[d.name, d.mail].getD i []] := fun h => by
    rw [List.take_succ_eq_append_getElem (by simpa using h)]; simp [List.getD_eq_getElem?_getD, List.getElem?_eq_getElem (show i < [d.name, d.mail].length by simpa using h)]
  repeat' (first | refine Step.out ?_ | refine And.intro (fun h => ?_) (fun h => ?_) | intro _ | refine GW.i64 (by omega) ?_ | refine GW.u32 (by omega) ?_ | refine GW.u64 (by omega) ?_ | refine GW.u8 (by omega) ?_ | refine GW.u16 (by omega) ?_ | refine And.intro rfl ?_ | refine And.intro (by assumption) ?_ | refine And.intro (by omega) ?_ | refine And.intro (by simp only [List.length_append, List.length_replicate, List.length_drop, List.length_take, List.length_cons, List.length_nil, u8s_len, be_length]; omega) ?_ | fail)
  · rw [names_get _ _ (by omega)]
    have hgl := hgl i (by omega)
    cases hpl : W.plain
    · simp only [Bool.false_eq_true, if_false]
      repeat' (first | refine Step.out ?_ | refine And.intro (fun h => ?_) (fun h => ?_) | intro _ | refine GW.i64 (by omega) ?_ | refine GW.u32 (by omega) ?_ | refine GW.u64 (by omega) ?_ | refine GW.u8 (by omega) ?_ | refine GW.u16 (by omega) ?_ | refine And.intro rfl ?_ | refine And.intro (by assumption) ?_ | refine And.intro (by omega) ?_ | refine And.intro (by simp only [List.length_append, List.length_replicate, List.length_drop, List.length_take, List.length_cons, List.length_nil, u8s_len, be_length]; omega) ?_ | fail)
      refine ⟨k - 1, by omega, i + 1, by omega, by simp, ?_⟩
      rw [hsn (by omega), namesP_snoc, if_neg (by simp [hpl])]
      exact At.pm ‹_›
    · simp only [if_true]
      repeat' (first | refine Step.out ?_ | refine And.intro (fun h => ?_) (fun h => ?_) | intro _ | refine GW.i64 (by omega) ?_ | refine GW.u32 (by omega) ?_ | refine GW.u64 (by omega) ?_ | refine GW.u8 (by omega) ?_ | refine GW.u16 (by omega) ?_ | refine And.intro rfl ?_ | refine And.intro (by assumption) ?_ | refine And.intro (by omega) ?_ | refine And.intro (by simp only [List.length_append, List.length_replicate, List.length_drop, List.length_take, List.length_cons, List.length_nil, u8s_len, be_length]; omega) ?_ | fail)
      refine ⟨k - 1, by omega, i + 1, by omega, by simp, ?_⟩
      rw [hsn (by omega), namesP_snoc, if_pos hpl]
      exact At.pm ‹_›
  all_goals have hiN : i = N := by omega
  all_goals subst hiN
  · have hnf : ¬ W.numsFirst = true := by assumption
    simp only [if_neg hnf]
    generalize numsP W d (namesP W p2 ([d.name, d.mail].take i)) W.nums.toNat = p4 at *
    have hraw := hd.raw
    have heach := hd.each
    have htl := hd.texts
    have hAx := ‹At w0 F _ (_ :: _ :: _ :: _)›
    have h00 : At w0 F _ [(b2, cells (daC d v) Y_api_Data), (b1, cells [ptr b] Y_p_pack_Packer), (b, packer p4), (0, sl v n (strs d.texts) 1)] := At.sb hAx
    refine loopN (fun k s w => ∃ j : Nat, j + k = n ∧ s = [ptr b1, ptr b2, v, .int .i64 n, .int .i64 j] ∧
      At w0 F w [(b2, cells (daC d v) Y_api_Data), (b1, cells [ptr b] Y_p_pack_Packer), (b, packer (textsP p4 (d.texts.take j))), (0, sl v n (strs d.texts) 1)]) n ⟨0, by omega, rfl, h00⟩ ?_
    clear hAx h00
    rintro k ρ w ⟨j, hj, hs, hA⟩
    simp only [pick, List.cons.injEq, and_true] at hs
    obtain ⟨h0, h1, h2, h3, h4⟩ := hs
    simp only [h0, h1, h2, h3, h4]
    have hb5 : j < n → (d.texts.getD j []).length ≤ 1048576 := fun h => heach _ (by rw [List.getD_eq_getElem?_getD, List.getElem?_eq_getElem (by omega)]; simp)
    repeat' (first | refine Step.out ?_ | refine And.intro (fun h => ?_) (fun h => ?_) | intro _ | refine GW.i64 (by omega) ?_ | refine GW.u32 (by omega) ?_ | refine GW.u64 (by omega) ?_ | refine GW.u8 (by omega) ?_ | refine GW.u16 (by omega) ?_ | refine And.intro rfl ?_ | refine And.intro (by assumption) ?_ | refine And.intro (by omega) ?_ | refine And.intro (by simp only [List.length_append, List.length_replicate, List.length_drop, List.length_take, List.length_cons, List.length_nil, u8s_len, be_length]; omega) ?_ | fail)
    · rw [Int.toNat_natCast]
      have hb5 := hb5 (by omega)
      repeat' (first | refine Step.out ?_ | refine And.intro (fun h => ?_) (fun h => ?_) | intro _ | refine GW.i64 (by omega) ?_ | refine GW.u32 (by omega) ?_ | refine GW.u64 (by omega) ?_ | refine GW.u8 (by omega) ?_ | refine GW.u16 (by omega) ?_ | refine And.intro rfl ?_ | refine And.intro (by assumption) ?_ | refine And.intro (by omega) ?_ | refine And.intro (by simp only [List.length_append, List.length_replicate, List.length_drop, List.length_take, List.length_cons, List.length_nil, u8s_len, be_length]; omega) ?_ | fail)
      refine ⟨k - 1, by omega, j + 1, by omega, by simp, ?_⟩
      rw [List.take_succ_eq_append_getElem (show j < d.texts.length by omega), textsP_snoc]
      have e : d.texts.getD j [] = d.texts[j] := by simp [List.getD_eq_getElem?_getD, List.getElem?_eq_getElem (show j < d.texts.length by omega)]
      rw [← e]
      exact At.pm ‹_›
    · have e6 : d.texts.take j = d.texts := List.take_of_length_le (by omega)
      have hAy := ‹At w0 F _ ((b, packer ((textsP p4 (d.texts.take j)).put d.raw).1) :: _)›
      rw [e6] at hAy ⊢
      exact ⟨_, ⟨rfl, rfl⟩, At.sb hAy⟩
  · have hnf : W.numsFirst = true := Decidable.not_not.1 (by assumption)
    simp only [if_pos hnf]
    generalize namesP W p2 ([d.name, d.mail].take i) = p4 at *
    have hraw := hd.raw
    have heach := hd.each
    have htl := hd.texts
    have hAx := ‹At w0 F _ (_ :: _ :: _ :: _)›
    have h00 : At w0 F _ [(b2, cells (daC d v) Y_api_Data), (b1, cells [ptr b] Y_p_pack_Packer), (b, packer p4), (0, sl v n (strs d.texts) 1)] := At.sb hAx
    refine loopN (fun k s w => ∃ j : Nat, j + k = n ∧ s = [ptr b1, ptr b2, v, .int .i64 n, .int .i64 j] ∧
      At w0 F w [(b2, cells (daC d v) Y_api_Data), (b1, cells [ptr b] Y_p_pack_Packer), (b, packer (textsP p4 (d.texts.take j))), (0, sl v n (strs d.texts) 1)]) n ⟨0, by omega, rfl, h00⟩ ?_
    clear hAx h00
    rintro k ρ w ⟨j, hj, hs, hA⟩
    simp only [pick, List.cons.injEq, and_true] at hs
    obtain ⟨h0, h1, h2, h3, h4⟩ := hs
    simp only [h0, h1, h2, h3, h4]
    have hb5 : j < n → (d.texts.getD j []).length ≤ 1048576 := fun h => heach _ (by rw [List.getD_eq_getElem?_getD, List.getElem?_eq_getElem (by omega)]; simp)
    repeat' (first | refine Step.out ?_ | refine And.intro (fun h => ?_) (fun h => ?_) | intro _ | refine GW.i64 (by omega) ?_ | refine GW.u32 (by omega) ?_ | refine GW.u64 (by omega) ?_ | refine GW.u8 (by omega) ?_ | refine GW.u16 (by omega) ?_ | refine And.intro rfl ?_ | refine And.intro (by assumption) ?_ | refine And.intro (by omega) ?_ | refine And.intro (by simp only [List.length_append, List.length_replicate, List.length_drop, List.length_take, List.length_cons, List.length_nil, u8s_len, be_length]; omega) ?_ | fail)
    · rw [Int.toNat_natCast]
      have hb5 := hb5 (by omega)
      repeat' (first | refine Step.out ?_ | refine And.intro (fun h => ?_) (fun h => ?_) | intro _ | refine GW.i64 (by omega) ?_ | refine GW.u32 (by omega) ?_ | refine GW.u64 (by omega) ?_ | refine GW.u8 (by omega) ?_ | refine GW.u16 (by omega) ?_ | refine And.intro rfl ?_ | refine And.intro (by assumption) ?_ | refine And.intro (by omega) ?_ | refine And.intro (by simp only [List.length_append, List.length_replicate, List.length_drop, List.length_take, List.length_cons, List.length_nil, u8s_len, be_length]; omega) ?_ | fail)
      refine ⟨k - 1, by omega, j + 1, by omega, by simp, ?_⟩
      rw [List.take_succ_eq_append_getElem (show j < d.texts.length by omega), textsP_snoc]
      have e : d.texts.getD j [] = d.texts[j] := by simp [List.getD_eq_getElem?_getD, List.getElem?_eq_getElem (show j < d.texts.length by omega)]
      rw [← e]
      exact At.pm ‹_›
    · have e6 : d.texts.take j = d.texts := List.take_of_length_le (by omega)
      have hAy := ‹At w0 F _ ((b, packer ((textsP p4 (d.texts.take j)).put d.raw).1) :: _)›
      rw [e6] at hAy ⊢
      exact ⟨_, ⟨rfl, rfl⟩, At.sb hAy⟩
end
end Go.Proofs.Ytkpinncakbnikaa
namespace Go.Proofs.Ytkpinncakbnikaa
open Go Np Go.Proofs
set_option linter.all false
set_option maxRecDepth 20000
def cursor (c : Cu) : Ent := exE fun br : Nat => puE (andE (cells [ptr br, str c.s, .int .i64 c.e, str c.all] Y_rdata_cursor) br (reader c.r)) (c.all.length ≤ 1099511627776)
section
variable {w0 w : World} {F : Fp} {L L' : List (Nat × Ent)} {b : Nat} {K : Value → World → Prop} {c : Cu} {n : Int}
theorem cursor_open (h : At w0 F w ((b, cursor c) :: L)) : c.all.length ≤ 1099511627776 ∧ ∃ br, At w0 F w ((b, cells [ptr br, str c.s, .int .i64 c.e, str c.all] Y_rdata_cursor) :: (br, reader c.r) :: L) := by
  obtain ⟨br, h⟩ := At.exE_iff.1 h
  obtain ⟨h1, h⟩ := At.puE_iff.1 h
  exact ⟨h1, br, At.andE_iff.1 h⟩
theorem cursor_close {br : Nat} {r : Rr} {s all : By} {e : Int} (h1 : all.length ≤ 1099511627776) (h : At w0 F w ((b, cells [ptr br, str s, .int .i64 e, str all] Y_rdata_cursor) :: (br, reader r) :: L)) : At w0 F w ((b, cursor ⟨r, s, e, all⟩) :: L) :=
  At.exE_iff.2 ⟨br, At.puE_iff.2 ⟨h1, At.andE_iff.2 h⟩⟩
theorem c_cursor_take : C1 Try.prog F_rdata_cursor_take #[ptr b, .int .i64 n] b (cursor c) fun u Y => u = str (c.take n).2 ∧ Y = cursor (c.take n).1 := by
  intro w0 F w hA
  obtain ⟨h1, br, hA⟩ := cursor_open hA
  refine ok_rdata_cursor_take ?_
  unfold T_rdata_cursor_take
  repeat' (first | refine Step.out ?_ | refine And.intro (fun h => ?_) (fun h => ?_) | intro _ | refine GW.i64 (by omega) ?_ | refine GW.u32 (by omega) ?_ | refine GW.u64 (by omega) ?_ | refine GW.u8 (by omega) ?_ | refine GW.u16 (by omega) ?_ | refine And.intro rfl ?_ | refine And.intro (by assumption) ?_ | refine And.intro (by omega) ?_ | refine And.intro (by simp only [List.length_append, List.length_replicate, List.length_drop, List.length_take, List.length_cons, List.length_nil, u8s_len, be_length]; omega) ?_ | fail)
  · rw [Cu.take, if_pos (by assumption)]; exact ⟨_, ⟨rfl, rfl⟩, cursor_close (br := br) h1 (At.pm ‹_›)⟩
  · rw [Cu.take, if_neg (by assumption)]; exact ⟨_, ⟨rfl, rfl⟩, cursor_close (br := br) h1 (At.pm ‹_›)⟩
instance [h : At w0 F w L] [r : Rm L b (cursor c) L'] : Step (Gv Try.prog F_rdata_cursor_take #[ptr b, .int .i64 n] w K) (∀ w', At w0 F w' ((b, cursor (c.take n).1) :: L') → K (str (c.take n).2) w') :=
  ⟨fun hk => C1.call c_cursor_take h r fun v Y w' hv hA => by obtain ⟨rfl, rfl⟩ := hv; exact hk w' hA⟩
theorem c_cursor_number : C1 Try.prog F_rdata_cursor_number #[ptr b, .int .i64 n] b (cursor c) fun u Y => u = .int .u32 (c.num n).2 ∧ Y = cursor (c.num n).1 := by
  intro w0 F w hA
  obtain ⟨h1, br, hA⟩ := cursor_open hA
  refine ok_rdata_cursor_number ?_
  unfold T_rdata_cursor_number
  repeat' (first | refine Step.out ?_ | refine And.intro (fun h => ?_) (fun h => ?_) | intro _ | refine GW.i64 (by omega) ?_ | refine GW.u32 (by omega) ?_ | refine GW.u64 (by omega) ?_ | refine GW.u8 (by omega) ?_ | refine GW.u16 (by omega) ?_ | refine And.intro rfl ?_ | refine And.intro (by assumption) ?_ | refine And.intro (by omega) ?_ | refine And.intro (by simp only [List.length_append, List.length_replicate, List.length_drop, List.length_take, List.length_cons, List.length_nil, u8s_len, be_length]; omega) ?_ | fail)
  · rw [Cu.num, if_pos (by assumption)]; exact ⟨_, ⟨rfl, rfl⟩, cursor_close (br := br) h1 (At.pm ‹_›)⟩
  · rw [Cu.num, if_neg (by assumption)]; exact ⟨_, ⟨rfl, rfl⟩, cursor_close (br := br) h1 (At.pm ‹_›)⟩
instance [h : At w0 F w L] [r : Rm L b (cursor c) L'] : Step (Gv Try.prog F_rdata_cursor_number #[ptr b, .int .i64 n] w K) (∀ w', At w0 F w' ((b, cursor (c.num n).1) :: L') → K (.int .u32 (c.num n).2) w') :=
  ⟨fun hk => C1.call c_cursor_number h r fun v Y w' hv hA => by obtain ⟨rfl, rfl⟩ := hv; exact hk w' hA⟩
instance : HasBody Try.prog F_unpack_Name := ⟨by kernel_rfl⟩
instance : HasBody Try.prog F_unpack_Plain := ⟨by kernel_rfl⟩
theorem c_cursor_name {fo : Bool} : C1 Try.prog F_rdata_cursor_name #[ptr b, fv (if fo = true then F_unpack_Name else F_unpack_Plain)] b (cursor c) fun u Y => u = str (c.name fo).2 ∧ Y = cursor (c.name fo).1 := by
  intro w0 F w hA
  obtain ⟨h1, br, hA⟩ := cursor_open hA
  refine ok_rdata_cursor_name ?_
  unfold T_rdata_cursor_name
  cases fo
  · simp only [Bool.false_eq_true, if_false]
    repeat' (first | refine Step.out ?_ | refine And.intro (fun h => ?_) (fun h => ?_) | intro _ | refine GW.i64 (by omega) ?_ | refine GW.u32 (by omega) ?_ | refine GW.u64 (by omega) ?_ | refine GW.u8 (by omega) ?_ | refine GW.u16 (by omega) ?_ | refine And.intro rfl ?_ | refine And.intro (by assumption) ?_ | refine And.intro (by omega) ?_ | refine And.intro (by simp only [List.length_append, List.length_replicate, List.length_drop, List.length_take, List.length_cons, List.length_nil, u8s_len, be_length]; omega) ?_ | fail)
    · rw [Cu.name, if_pos (by assumption)]; exact ⟨_, ⟨rfl, rfl⟩, cursor_close (br := br) h1 (At.pm ‹_›)⟩
    all_goals rw [Cu.name, if_neg (by assumption)]
    · rw [if_pos (by assumption)]; exact ⟨_, ⟨rfl, rfl⟩, cursor_close (br := br) h1 (At.pm ‹_›)⟩
    · exfalso; omega
    all_goals rw [if_neg (by assumption)]
    · rw [if_pos (by assumption)]; exact ⟨_, ⟨rfl, rfl⟩, cursor_close (br := br) h1 (At.pm ‹_›)⟩
    · exfalso; omega
    all_goals rw [if_neg (by assumption)]
    · rw [if_pos (by assumption)]; exact ⟨_, ⟨rfl, rfl⟩, cursor_close (br := br) h1 (At.pm ‹_›)⟩
    · have h0 := Decidable.not_not.1 ‹¬ ¬ (c.r.seek _).2 = 0›
      rw [if_neg (by assumption)]
      have hAz := ‹At w0 F _ ((b, cells _ _) :: _)›
      rw [h0] at hAz
      exact ⟨_, ⟨rfl, rfl⟩, cursor_close (br := br) h1 (At.pm hAz)⟩
  · simp only [if_true]
    repeat' (first | refine Step.out ?_ | refine And.intro (fun h => ?_) (fun h => ?_) | intro _ | refine GW.i64 (by omega) ?_ | refine GW.u32 (by omega) ?_ | refine GW.u64 (by omega) ?_ | refine GW.u8 (by omega) ?_ | refine GW.u16 (by omega) ?_ | refine And.intro rfl ?_ | refine And.intro (by assumption) ?_ | refine And.intro (by omega) ?_ | refine And.intro (by simp only [List.length_append, List.length_replicate, List.length_drop, List.length_take, List.length_cons, List.length_nil, u8s_len, be_length]; omega) ?_ | fail)
    · rw [Cu.name, if_pos (by assumption)]; exact ⟨_, ⟨rfl, rfl⟩, cursor_close (br := br) h1 (At.pm ‹_›)⟩
    all_goals rw [Cu.name, if_neg (by assumption)]
    · rw [if_pos (by assumption)]; exact ⟨_, ⟨rfl, rfl⟩, cursor_close (br := br) h1 (At.pm ‹_›)⟩
    · exfalso; omega
    all_goals rw [if_neg (by assumption)]
    · rw [if_pos (by assumption)]; exact ⟨_, ⟨rfl, rfl⟩, cursor_close (br := br) h1 (At.pm ‹_›)⟩
    · exfalso; omega
    all_goals rw [if_neg (by assumption)]
    · rw [if_pos (by assumption)]; exact ⟨_, ⟨rfl, rfl⟩, cursor_close (br := br) h1 (At.pm ‹_›)⟩
    · have h0 := Decidable.not_not.1 ‹¬ ¬ (c.r.seek _).2 = 0›
      rw [if_neg (by assumption)]
      have hAz := ‹At w0 F _ ((b, cells _ _) :: _)›
      rw [h0] at hAz
      exact ⟨_, ⟨rfl, rfl⟩, cursor_close (br := br) h1 (At.pm hAz)⟩
instance name_true [h : At w0 F w L] [r : Rm L b (cursor c) L'] : Step (Gv Try.prog F_rdata_cursor_name #[ptr b, fv F_unpack_Name] w K) (∀ w', At w0 F w' ((b, cursor (c.name true).1) :: L') → K (str (c.name true).2) w') :=
  ⟨fun hk => C1.call (c_cursor_name (fo := true)) h r fun v Y w' hv hA => by obtain ⟨rfl, rfl⟩ := hv; exact hk w' hA⟩
instance name_false [h : At w0 F w L] [r : Rm L b (cursor c) L'] : Step (Gv Try.prog F_rdata_cursor_name #[ptr b, fv F_unpack_Plain] w K) (∀ w', At w0 F w' ((b, cursor (c.name false).1) :: L') → K (str (c.name false).2) w') :=
  ⟨fun hk => C1.call (c_cursor_name (fo := false)) h r fun v Y w' hv hA => by obtain ⟨rfl, rfl⟩ := hv; exact hk w' hA⟩
end
end Go.Proofs.Ytkpinncakbnikaa
namespace Go.Proofs.Ytkpinncakbnikaa
open Go Np Go.Proofs
set_option linter.all false
set_option maxRecDepth 20000
section
variable {w0 w : World} {F : Fp} {L L' : List (Nat × Ent)} {b bd bw bp : Nat} {K : Value → World → Prop} {c : Cu} {n : Int} {W : What} {d : Dat} {v : Value}
theorem set_num (d : Dat) (v : Value) {i : Nat} (x : Nat) (h : i < 5) : (daC d v).set (5 + i) (.int .u32 (x : Nat)) = daC (d.setNum i x) v := by
  have : i = 0 ∨ i = 1 ∨ i = 2 ∨ i = 3 ∨ i = 4 := by omega
  rcases this with rfl | rfl | rfl | rfl | rfl <;> rfl
theorem c_data_1 (hW : OkW W) (h : At w0 F w ((bw, cells (whC W) Y_rdata_what) :: (bp, cells [ptr b] Y_p_rdata_cursor) :: (bd, cells (daC d v) Y_api_Data) :: (b, cursor c) :: L))
    (hk : ∀ w', At w0 F w' ((bw, cells (whC W) Y_rdata_what) :: (bp, cells [ptr b] Y_p_rdata_cursor) :: (bd, cells (daC (Cu.nums W.wide W.nums.toNat (c, d)).2 v) Y_api_Data) :: (b, cursor (Cu.nums W.wide W.nums.toNat (c, d)).1) :: L) → K (.tuple #[]) w') :
    Gv Try.prog F_rdata_cursor_data_1 #[ptr bw, ptr bp, ptr bd] w K := by
  obtain ⟨wa, wn, wnu, ww⟩ := hW
  refine ok_rdata_cursor_data_1 ?_
  unfold T_rdata_cursor_data_1
  repeat' (first | refine Step.out ?_ | refine And.intro (fun h => ?_) (fun h => ?_) | intro _ | refine GW.i64 (by omega) ?_ | refine GW.u32 (by omega) ?_ | refine GW.u64 (by omega) ?_ | refine GW.u8 (by omega) ?_ | refine GW.u16 (by omega) ?_ | refine And.intro rfl ?_ | refine And.intro (by assumption) ?_ | refine And.intro (by omega) ?_ | refine And.intro (by simp only [List.length_append, List.length_replicate, List.length_drop, List.length_take, List.length_cons, List.length_nil, u8s_len, be_length]; omega) ?_ | fail)
  refine loopN (fun k s w => ∃ i : Nat, i + k = W.nums.toNat ∧ s = [ptr bw, ptr bp, ptr bd, .int .i64 W.nums, .int .i64 i] ∧
    At w0 F w ((bw, cells (whC W) Y_rdata_what) :: (bp, cells [ptr b] Y_p_rdata_cursor) :: (bd, cells (daC (Cu.nums W.wide i (c, d)).2 v) Y_api_Data) :: (b, cursor (Cu.nums W.wide i (c, d)).1) :: L)) W.nums.toNat ⟨0, by omega, rfl, h⟩ ?_
  rintro k ρ w ⟨i, hi, hs, hA⟩
  clear h
  simp only [pick, List.cons.injEq, and_true] at hs
  obtain ⟨h0, h1, h2, h3, h4⟩ := hs
  simp only [h0, h1, h2, h3, h4]
  repeat' (first | refine Step.out ?_ | refine And.intro (fun h => ?_) (fun h => ?_) | intro _ | refine GW.i64 (by omega) ?_ | refine GW.u32 (by omega) ?_ | refine GW.u64 (by omega) ?_ | refine GW.u8 (by omega) ?_ | refine GW.u16 (by omega) ?_ | refine And.intro rfl ?_ | refine And.intro (by assumption) ?_ | refine And.intro (by omega) ?_ | refine And.intro (by simp only [List.length_append, List.length_replicate, List.length_drop, List.length_take, List.length_cons, List.length_nil, u8s_len, be_length]; omega) ?_ | fail)
  · rw [Int.toNat_natCast, Nat.mul_one]
    rename_i w1 hA1
    refine ⟨_, storeVar_sc (T := Y_api_Data) (cs := daC (Cu.nums W.wide i (c, d)).2 v) inferInstance inferInstance hA1 inferInstance (show 5 + i < 12 by omega), ?_⟩
    have hA2 := hA1.set (b := bd) (L' := _) (cs := daC (Cu.nums W.wide i (c, d)).2 v) (T := Y_api_Data) inferInstance (5 + i) (.int .u32 (((Cu.nums W.wide i (c, d)).1.num W.wide).2 : Nat))
    rw [set_num _ _ _ (by omega)] at hA2
    repeat' (first | refine Step.out ?_ | refine And.intro (fun h => ?_) (fun h => ?_) | intro _ | refine GW.i64 (by omega) ?_ | refine GW.u32 (by omega) ?_ | refine GW.u64 (by omega) ?_ | refine GW.u8 (by omega) ?_ | refine GW.u16 (by omega) ?_ | refine And.intro rfl ?_ | refine And.intro (by assumption) ?_ | refine And.intro (by omega) ?_ | refine And.intro (by simp only [List.length_append, List.length_replicate, List.length_drop, List.length_take, List.length_cons, List.length_nil, u8s_len, be_length]; omega) ?_ | fail)
    refine ⟨k - 1, by omega, i + 1, by omega, by simp, ?_⟩
    rw [show Cu.nums W.wide (i + 1) (c, d) = (((Cu.nums W.wide i (c, d)).1.num W.wide).1, (Cu.nums W.wide i (c, d)).2.setNum i ((Cu.nums W.wide i (c, d)).1.num W.wide).2) from rfl]
    exact At.pm hA2
  · have : i = W.nums.toNat := by omega
    subst this
    exact hk _ hA
end
end Go.Proofs.Ytkpinncakbnikaa
namespace Go.Proofs.Ytkpinncakbnikaa
open Go Np Go.Proofs
set_option linter.all false
set_option maxRecDepth 20000
section
variable {w0 w : World} {F : Fp} {L L' : List (Nat × Ent)} {b bd bw bp : Nat} {K : Value → World → Prop} {c : Cu} {n : Int} {W : What} {d : Dat} {v : Value}
instance {L1 L2 L3 L4 : List (Nat × Ent)} [h : At w0 F w L] [r2 : Rm L bw (cells (whC W) Y_rdata_what) L1] [r3 : Rm L1 bp (cells [ptr b] Y_p_rdata_cursor) L2] [r1 : Rm L2 bd (cells (daC d v) Y_api_Data) L3] [r4 : Rm L3 b (cursor c) L4] :
    Step (Gv Try.prog F_rdata_cursor_data_1 #[ptr bw, ptr bp, ptr bd] w K) (OkW W ∧ ∀ w', At w0 F w' ((bw, cells (whC W) Y_rdata_what) :: (bp, cells [ptr b] Y_p_rdata_cursor) :: (bd, cells (daC (Cu.nums W.wide W.nums.toNat (c, d)).2 v) Y_api_Data) :: (b, cursor (Cu.nums W.wide W.nums.toNat (c, d)).1) :: L4) → K (.tuple #[]) w') :=
  ⟨fun ⟨h1, hk⟩ => c_data_1 h1 (h.perm (r2.perm.trans ((r3.perm.trans ((r1.perm.trans (r4.perm.cons _)).cons _)).cons _))) hk⟩
instance : HasBody Try.prog F_rdata_cursor_data_1 := ⟨by kernel_rfl⟩
instance name_if {fo : Bool} [h : At w0 F w L] [r : Rm L b (cursor c) L'] : Step (Gv Try.prog F_rdata_cursor_name #[ptr b, fv (if fo = true then F_unpack_Name else F_unpack_Plain)] w K) (∀ w', At w0 F w' ((b, cursor (c.name fo).1) :: L') → K (str (c.name fo).2) w') :=
  ⟨fun hk => C1.call (c_cursor_name (fo := fo)) h r fun v Y w' hv hA => by obtain ⟨rfl, rfl⟩ := hv; exact hk w' hA⟩
theorem set_name (d : Dat) (v : Value) {i : Nat} (x : By) (h : i < 2) : (daC d v).set (3 + i) (str x) = daC (d.setName i x) v := by
  have : i = 0 ∨ i = 1 := by omega
  rcases this with rfl | rfl <;> rfl
theorem two_get (x y : Value) {i : Nat} (h : i < 2) : [x, y].getD (0 + (i : Int).toNat * 1) undef = if i = 0 then x else y := by
  have : i = 0 ∨ i = 1 := by omega
  rcases this with rfl | rfl <;> rfl
theorem ptr_if (b o : Nat) {i : Nat} (h : i < 2) : (if i = 0 then Value.pointer (some ⟨b, o, none⟩) else Value.pointer (some ⟨b, o + 1, none⟩)) = .pointer (some ⟨b, o + i, none⟩) := by
  have : i = 0 ∨ i = 1 := by omega
  rcases this with rfl | rfl <;> rfl
theorem cursor_len (h : At w0 F w L) [r : Rm L b (cursor c) L'] : c.r.at' ≤ c.r.s.length ∧ c.r.s.length ≤ 1099511627776 := by
  obtain ⟨_, br, hA⟩ := cursor_open (h.perm r.perm)
  exact (reader_open (hA.perm (List.Perm.swap _ _ _))).1
instance cur_e {KV : Value → Prop} [h : At w0 F w L] [r : Rm L b (cursor c) L'] : Step (rd Try.prog (Instr.loadAt Y_api_Errno (.pointer (some ⟨b, 2, none⟩))) w KV) (KV (.int .i64 c.e)) := ⟨fun hk => by
  obtain ⟨h1, br, hA⟩ := cursor_open (h.perm r.perm)
  exact Step.out hk⟩
instance cur_e2 {G : Prop} [h : At w0 F w L] [r : Rm L b (cursor c) L'] : Step (rdV Try.prog (Instr.loadAt Y_api_Errno (.pointer (some ⟨b, 2, none⟩))) (.int .i64 c.e) w ∧ G) G := ⟨fun hk => by
  obtain ⟨h1, br, hA⟩ := cursor_open (h.perm r.perm)
  exact Step.out hk⟩
instance cur_left [h : At w0 F w L] [r : Rm L b (cursor c) L'] : Step (rd Try.prog (Instr.loadAt Y_p_octets_Reader (.pointer (some ⟨b, 0, none⟩))) w fun v => Gv Try.prog F_octets_Reader_Left #[v] w K) (∀ w', At w0 F w' ((b, cursor c) :: L') → K (.int .i64 c.left) w') := ⟨fun hk => by
  obtain ⟨h1, br, hA⟩ := cursor_open (h.perm r.perm)
  repeat' (first | refine Step.out ?_ | refine And.intro (fun h => ?_) (fun h => ?_) | intro _ | refine GW.i64 (by omega) ?_ | refine GW.u32 (by omega) ?_ | refine GW.u64 (by omega) ?_ | refine GW.u8 (by omega) ?_ | refine GW.u16 (by omega) ?_ | refine And.intro rfl ?_ | refine And.intro (by assumption) ?_ | refine And.intro (by omega) ?_ | refine And.intro (by simp only [List.length_append, List.length_replicate, List.length_drop, List.length_take, List.length_cons, List.length_nil, u8s_len, be_length]; omega) ?_ | fail)
  exact hk _ (cursor_close (br := br) h1 (At.pk [b, br] ‹_›))⟩
instance cur_seek {a : Int} [h : At w0 F w L] [r : Rm L b (cursor c) L'] : Step (rd Try.prog (Instr.loadAt Y_p_octets_Reader (.pointer (some ⟨b, 0, none⟩))) w fun v => Gv Try.prog F_octets_Reader_Seek #[v, .int .i64 a] w K) (∀ w', At w0 F w' ((b, cursor { c with r := (c.r.seek a).1 }) :: L') → K (.int .i64 (c.r.seek a).2) w') := ⟨fun hk => by
  obtain ⟨h1, br, hA⟩ := cursor_open (h.perm r.perm)
  repeat' (first | refine Step.out ?_ | refine And.intro (fun h => ?_) (fun h => ?_) | intro _ | refine GW.i64 (by omega) ?_ | refine GW.u32 (by omega) ?_ | refine GW.u64 (by omega) ?_ | refine GW.u8 (by omega) ?_ | refine GW.u16 (by omega) ?_ | refine And.intro rfl ?_ | refine And.intro (by assumption) ?_ | refine And.intro (by omega) ?_ | refine And.intro (by simp only [List.length_append, List.length_replicate, List.length_drop, List.length_take, List.length_cons, List.length_nil, u8s_len, be_length]; omega) ?_ | fail)
  exact hk _ (cursor_close (br := br) h1 (At.pk [b, br] ‹_›))⟩
theorem c_data (hW : OkW W) : Ct Try.prog F_rdata_cursor_data #[ptr b, whV W] [(b, cursor c)] fun u B => ∃ v, u = daV (c.data W).2 v ∧ B = [(b, cursor (c.data W).1), (0, sl v (c.data W).2.texts.length (strs (c.data W).2.texts) 1)] := by
  intro w0 F w hA
  have hW' := hW
  obtain ⟨wa, wn, wnu, ww⟩ := hW'
  refine ok_rdata_cursor_data ?_
  unfold T_rdata_cursor_data
  refine Step.out ?_
  intro bp w1 hA1
  refine Step.out ?_
  intro bw w2 hA2
  refine Step.out ?_
  intro bd w3 hA3
  clear hA hA1 hA2
  unfold Cu.data
  simp only
  generalize hx1 : (if 0 < W.addr then ((c.take W.addr).1, ({ Dat.zero with addr := (adOf (c.take W.addr).2).1 } : Dat)) else (c, Dat.zero)) = x1
  refine cutL (fun s w => s = [ptr bp, ptr bw, ptr bd] ∧ At w0 F w [(bw, cells (whC W) Y_rdata_what), (bp, cells [ptr b] Y_p_rdata_cursor), (bd, cells (daC x1.2 (.slice none 0 0)) Y_api_Data), (b, cursor x1.1)]) ?_ ?_
  · repeat' (first | refine Step.out ?_ | refine And.intro (fun h => ?_) (fun h => ?_) | intro _ | refine GW.i64 (by omega) ?_ | refine GW.u32 (by omega) ?_ | refine GW.u64 (by omega) ?_ | refine GW.u8 (by omega) ?_ | refine GW.u16 (by omega) ?_ | refine And.intro rfl ?_ | refine And.intro (by assumption) ?_ | refine And.intro (by omega) ?_ | refine And.intro (by simp only [List.length_append, List.length_replicate, List.length_drop, List.length_take, List.length_cons, List.length_nil, u8s_len, be_length]; omega) ?_ | fail)
    · rw [if_pos (by assumption)] at hx1; subst hx1; exact At.pk [bw, bp, bd, b] ‹_›
    · rw [if_neg (by assumption)] at hx1; subst hx1; exact At.pk [bw, bp, bd, b] ‹_›
  clear hx1
  rintro ρ w ⟨hs, hA⟩
  clear hA3
  simp only [pick, List.cons.injEq, and_true] at hs
  obtain ⟨h0, h1, h2⟩ := hs
  simp only [h0, h1, h2]
  generalize hcl : (Value.func (.func F_rdata_cursor_data_1) #[] #[ptr bw, ptr bp, ptr bd]) = cl
  refine cutL (fun s w => s = [ptr bp, ptr bw, ptr bd, cl, fv (if (!W.plain) = true then F_unpack_Name else F_unpack_Plain)] ∧ At w0 F w [(bw, cells (whC W) Y_rdata_what), (bp, cells [ptr b] Y_p_rdata_cursor), (bd, cells (daC x1.2 (.slice none 0 0)) Y_api_Data), (b, cursor x1.1)]) ?_ ?_
  · repeat' (first | refine Step.out ?_ | refine And.intro (fun h => ?_) (fun h => ?_) | intro _ | refine GW.i64 (by omega) ?_ | refine GW.u32 (by omega) ?_ | refine GW.u64 (by omega) ?_ | refine GW.u8 (by omega) ?_ | refine GW.u16 (by omega) ?_ | refine And.intro rfl ?_ | refine And.intro (by assumption) ?_ | refine And.intro (by omega) ?_ | refine And.intro (by simp only [List.length_append, List.length_replicate, List.length_drop, List.length_take, List.length_cons, List.length_nil, u8s_len, be_length]; omega) ?_ | fail)
    · have hpl : W.plain = true := by assumption
      exact ⟨by rw [hpl]; rfl, ‹_›⟩
    · have hpl : W.plain = false := by simpa using (show ¬ W.plain = true by assumption)
      exact ⟨by rw [hpl]; rfl, ‹_›⟩
  rintro ρ w ⟨hs, hA⟩
  simp only [pick, List.cons.injEq, and_true] at hs
  obtain ⟨h0, h1, h2, h3, h4⟩ := hs
  simp only [h0, h1, h2, h3, h4]
  generalize hx2 : (if W.numsFirst = true then Cu.nums W.wide W.nums.toNat x1 else x1) = x2
  refine cutL (fun s w => s = [ptr bp, ptr bw, ptr bd, cl, fv (if (!W.plain) = true then F_unpack_Name else F_unpack_Plain)] ∧ At w0 F w [(bw, cells (whC W) Y_rdata_what), (bp, cells [ptr b] Y_p_rdata_cursor), (bd, cells (daC x2.2 (.slice none 0 0)) Y_api_Data), (b, cursor x2.1)]) ?_ ?_
  · subst hcl
    repeat' (first | refine Step.out ?_ | refine And.intro (fun h => ?_) (fun h => ?_) | intro _ | refine GW.i64 (by omega) ?_ | refine GW.u32 (by omega) ?_ | refine GW.u64 (by omega) ?_ | refine GW.u8 (by omega) ?_ | refine GW.u16 (by omega) ?_ | refine And.intro rfl ?_ | refine And.intro (by assumption) ?_ | refine And.intro (by omega) ?_ | refine And.intro (by simp only [List.length_append, List.length_replicate, List.length_drop, List.length_take, List.length_cons, List.length_nil, u8s_len, be_length]; omega) ?_ | fail)
    · rw [if_pos (by assumption)] at hx2; subst hx2; exact At.pm ‹_›
    · rw [if_neg (by assumption)] at hx2; subst hx2; exact At.pm ‹_›
  rintro ρ w ⟨hs, hA⟩
  simp only [pick, List.cons.injEq, and_true] at hs
  obtain ⟨h0, h1, h2, h3, h4⟩ := hs
  simp only [h0, h1, h2, h3, h4]
  repeat' (first | refine Step.out ?_ | refine And.intro (fun h => ?_) (fun h => ?_) | intro _ | refine GW.i64 (by omega) ?_ | refine GW.u32 (by omega) ?_ | refine GW.u64 (by omega) ?_ | refine GW.u8 (by omega) ?_ | refine GW.u16 (by omega) ?_ | refine And.intro rfl ?_ | refine And.intro (by assumption) ?_ | refine And.intro (by omega) ?_ | refine And.intro (by simp only [List.length_append, List.length_replicate, List.length_drop, List.length_take, List.length_cons, List.length_nil, u8s_len, be_length]; omega) ?_ | fail)
  rename_i bs w5 hA5
  clear hA
  obtain ⟨N, hN⟩ : ∃ N : Nat, W.names = N := ⟨W.names.toNat, by omega⟩
  have hN2 : N ≤ 2 := by omega
  rw [hN]
  simp only [Int.toNat_natCast]
  generalize hfo : (!W.plain) = fo
  refine loopN (fun k s w => ∃ i : Nat, i + k = N ∧ s = [ptr bp, ptr bw, ptr bd, cl, fv (if fo = true then F_unpack_Name else F_unpack_Plain), .slice (some ⟨bs, 0, none⟩) N 2, .int .i64 N, .int .i64 i] ∧
    At w0 F w [(bs, own (.slice (some ⟨bs, 0, none⟩) 2 2) 2 [.pointer (some ⟨bd, 3, none⟩), .pointer (some ⟨bd, 4, none⟩)] Y_p_api_Name 1), (bw, cells (whC W) Y_rdata_what), (bp, cells [ptr b] Y_p_rdata_cursor), (bd, cells (daC (Cu.names fo i x2).2 (.slice none 0 0)) Y_api_Data), (b, cursor (Cu.names fo i x2).1)]) N ⟨0, by omega, rfl, hA5⟩ ?_
  rintro k ρ w ⟨i, hi, hs, hA⟩
  clear hA5
  simp only [pick, List.cons.injEq, and_true] at hs
  obtain ⟨h0, h1, h2, h3, h4, h5, h6, h7⟩ := hs
  simp only [h0, h1, h2, h3, h4, h5, h6, h7]
  repeat' (first | refine Step.out ?_ | refine And.intro (fun h => ?_) (fun h => ?_) | intro _ | refine GW.i64 (by omega) ?_ | refine GW.u32 (by omega) ?_ | refine GW.u64 (by omega) ?_ | refine GW.u8 (by omega) ?_ | refine GW.u16 (by omega) ?_ | refine And.intro rfl ?_ | refine And.intro (by assumption) ?_ | refine And.intro (by omega) ?_ | refine And.intro (by simp only [List.length_append, List.length_replicate, List.length_drop, List.length_take, List.length_cons, List.length_nil, u8s_len, be_length]; omega) ?_ | fail)
  · rw [two_get _ _ (by omega), ptr_if bd 3 (by omega)]
    repeat' (first | refine Step.out ?_ | refine And.intro (fun h => ?_) (fun h => ?_) | intro _ | refine GW.i64 (by omega) ?_ | refine GW.u32 (by omega) ?_ | refine GW.u64 (by omega) ?_ | refine GW.u8 (by omega) ?_ | refine GW.u16 (by omega) ?_ | refine And.intro rfl ?_ | refine And.intro (by assumption) ?_ | refine And.intro (by omega) ?_ | refine And.intro (by simp only [List.length_append, List.length_replicate, List.length_drop, List.length_take, List.length_cons, List.length_nil, u8s_len, be_length]; omega) ?_ | fail)
    rename_i w6 hA6
    refine ⟨_, storeVar_sc (T := Y_api_Data) (cs := daC (Cu.names fo i x2).2 (.slice none 0 0)) inferInstance inferInstance hA6 inferInstance (show 3 + i < 12 by omega), ?_⟩
    have hA7 := hA6.set (b := bd) (L' := _) (cs := daC (Cu.names fo i x2).2 (.slice none 0 0)) (T := Y_api_Data) inferInstance (3 + i) (str ((Cu.names fo i x2).1.name fo).2)
    rw [set_name _ _ _ (by omega)] at hA7
    repeat' (first | refine Step.out ?_ | refine And.intro (fun h => ?_) (fun h => ?_) | intro _ | refine GW.i64 (by omega) ?_ | refine GW.u32 (by omega) ?_ | refine GW.u64 (by omega) ?_ | refine GW.u8 (by omega) ?_ | refine GW.u16 (by omega) ?_ | refine And.intro rfl ?_ | refine And.intro (by assumption) ?_ | refine And.intro (by omega) ?_ | refine And.intro (by simp only [List.length_append, List.length_replicate, List.length_drop, List.length_take, List.length_cons, List.length_nil, u8s_len, be_length]; omega) ?_ | fail)
    refine ⟨k - 1, by omega, i + 1, by omega, by simp, ?_⟩
    rw [show Cu.names fo (i + 1) x2 = (((Cu.names fo i x2).1.name fo).1, (Cu.names fo i x2).2.setName i ((Cu.names fo i x2).1.name fo).2) from rfl]
    exact At.pk [bs, bw, bp, bd, b] hA7
  have hiN : i = N := by omega
  subst hiN
  generalize Cu.names fo i x2 = x3 at *
  generalize hx4 : (if W.numsFirst = true then x3 else Cu.nums W.wide W.nums.toNat x3) = x4
  refine cutL (fun s w => s = [ptr bp, ptr bw, ptr bd] ∧ At w0 F w [(bw, cells (whC W) Y_rdata_what), (bp, cells [ptr b] Y_p_rdata_cursor), (bd, cells (daC x4.2 (.slice none 0 0)) Y_api_Data), (b, cursor x4.1)]) ?_ ?_
  · subst hcl
    repeat' (first | refine Step.out ?_ | refine And.intro (fun h => ?_) (fun h => ?_) | intro _ | refine GW.i64 (by omega) ?_ | refine GW.u32 (by omega) ?_ | refine GW.u64 (by omega) ?_ | refine GW.u8 (by omega) ?_ | refine GW.u16 (by omega) ?_ | refine And.intro rfl ?_ | refine And.intro (by assumption) ?_ | refine And.intro (by omega) ?_ | refine And.intro (by simp only [List.length_append, List.length_replicate, List.length_drop, List.length_take, List.length_cons, List.length_nil, u8s_len, be_length]; omega) ?_ | fail)
    · rw [if_neg (by assumption)] at hx4; subst hx4; exact At.sb (At.pk [bw, bp, bd, b] ‹_›)
    · have hnf := Decidable.not_not.1 (show ¬ ¬ W.numsFirst = true by assumption)
      rw [if_pos hnf] at hx4; subst hx4; exact At.sb (At.pk [bw, bp, bd, b] ‹_›)
  rintro ρ w ⟨hs, hA⟩
  clear hx4
  simp only [pick, List.cons.injEq, and_true] at hs
  obtain ⟨h0, h1, h2⟩ := hs
  simp only [h0, h1, h2]
  have hcl := cursor_len (b := b) (c := x4.1) hA
  repeat' (first | refine Step.out ?_ | refine And.intro (fun h => ?_) (fun h => ?_) | intro _ | refine GW.i64 (by omega) ?_ | refine GW.u32 (by omega) ?_ | refine GW.u64 (by omega) ?_ | refine GW.u8 (by omega) ?_ | refine GW.u16 (by omega) ?_ | refine And.intro rfl ?_ | refine And.intro (by assumption) ?_ | refine And.intro (by omega) ?_ | refine And.intro (by simp only [List.length_append, List.length_replicate, List.length_drop, List.length_take, List.length_cons, List.length_nil, u8s_len, be_length]; omega) ?_ | fail)
  refine loopN (fun k s w => ∃ (more : Bool) (c1 : Cu) (l : List By) (v : Value), Cu.texts k more c1 l = Cu.texts (x4.1.r.s.length + 2) W.texts x4.1 [] ∧ (more = true → c1.e = 0 → c1.r.s.length - c1.r.at' + 1 ≤ k) ∧ l.length + k = x4.1.r.s.length + 2 ∧ c1.r.s = x4.1.r.s ∧
    s = [ptr bp, ptr bw, ptr bd, .bool more] ∧ At w0 F w [(bw, cells (whC W) Y_rdata_what), (bp, cells [ptr b] Y_p_rdata_cursor), (bd, cells (daC x4.2 v) Y_api_Data), (b, cursor c1), (0, own v l.length (strs l) Y_string 1)]) (x4.1.r.s.length + 2)
    ⟨W.texts, x4.1, [], .slice none 0 0, rfl, fun _ _ => by omega, by simp, rfl, rfl, At.pk [bw, bp, bd, b] (hA.ownNil Y_string 1)⟩ ?_
  clear hA
  rintro k ρ w ⟨more, c1, l, v, htx, hfu, hlk, hcs, hs, hA⟩
  simp only [pick, List.cons.injEq, and_true] at hs
  obtain ⟨h0, h1, h2, h3⟩ := hs
  simp only [h0, h1, h2, h3]
  have hsl : SlV v l.length := own_slv (hA.owns inferInstance)
  have hnl := Cu.num_le c1 1
  have hcl1 := cursor_len (b := b) (c := c1) hA
  cases more with
  | true =>
    repeat' (first | refine Step.out ?_ | refine And.intro (fun h => ?_) (fun h => ?_) | intro _ | refine GW.i64 (by omega) ?_ | refine GW.u32 (by omega) ?_ | refine GW.u64 (by omega) ?_ | refine GW.u8 (by omega) ?_ | refine GW.u16 (by omega) ?_ | refine And.intro rfl ?_ | refine And.intro (by assumption) ?_ | refine And.intro (by omega) ?_ | refine And.intro (by simp only [List.length_append, List.length_replicate, List.length_drop, List.length_take, List.length_cons, List.length_nil, u8s_len, be_length]; omega) ?_ | fail)
    · have he := ‹c1.e = 0›
      have hk1 := hfu rfl he
      obtain ⟨k, rfl⟩ : ∃ k', k = k' + 1 := ⟨k - 1, by omega⟩
      obtain ⟨ta, tb⟩ := Cu.text_at c1
      have hAz := At.pd [bw, bp, bd, b, 0] ‹At w0 F _ ((b, cursor _) :: _)›
      rw [show strs l ++ [str ((c1.num 1).1.take (c1.num 1).2).2] = strs (l ++ [c1.text.2]) from by simp [strs]; rfl, show l.length + 1 = (l ++ [c1.text.2]).length from by simp] at hAz
      refine ⟨k, by omega, dec (0 < c1.text.1.left), c1.text.1, l ++ [c1.text.2], _, ?_, ?_, by simp; omega, ta.trans hcs, rfl, hAz⟩
      · rw [← htx, Cu.texts, if_pos ⟨rfl, he⟩, dec_eq]
      · intro h1 h2
        obtain ⟨tc, td, te⟩ := tb h2
        rw [ta]; omega
    all_goals
      have hy : Cu.texts (x4.1.r.s.length + 2) W.texts x4.1 [] = (c1, l) := by
        rw [← htx]
        cases k with
        | zero => rfl
        | succ k => rw [Cu.texts, if_neg (fun h => absurd h.2 (by assumption))]
      rw [hy]
    · rw [if_pos (by assumption)]
      exact ⟨_, ⟨v, rfl, rfl⟩, At.pd [b, 0] (At.freeze (At.pk [0] ‹_›))⟩
    · rw [if_neg (by assumption)]
      exact ⟨_, ⟨v, rfl, rfl⟩, At.pd [b, 0] (At.freeze (At.pk [0] ‹_›))⟩
  | false =>
    have hy : Cu.texts (x4.1.r.s.length + 2) W.texts x4.1 [] = (c1, l) := by rw [← htx, texts_none']
    rw [hy]
    repeat' (first | refine Step.out ?_ | refine And.intro (fun h => ?_) (fun h => ?_) | intro _ | refine GW.i64 (by omega) ?_ | refine GW.u32 (by omega) ?_ | refine GW.u64 (by omega) ?_ | refine GW.u8 (by omega) ?_ | refine GW.u16 (by omega) ?_ | refine And.intro rfl ?_ | refine And.intro (by assumption) ?_ | refine And.intro (by omega) ?_ | refine And.intro (by simp only [List.length_append, List.length_replicate, List.length_drop, List.length_take, List.length_cons, List.length_nil, u8s_len, be_length]; omega) ?_ | fail)
    · rw [if_pos (by assumption)]
      exact ⟨_, ⟨v, rfl, rfl⟩, At.pd [b, 0] (At.freeze (At.pk [0] ‹_›))⟩
    · rw [if_neg (by assumption)]
      exact ⟨_, ⟨v, rfl, rfl⟩, At.pd [b, 0] (At.freeze (At.pk [0] ‹_›))⟩
end
end Go.Proofs.Ytkpinncakbnikaa
namespace Go.Proofs.Ytkpinncakbnikaa
open Go Np Go.Proofs
set_option linter.all false
set_option maxRecDepth 20000
section
variable {w0 w : World} {F : Fp} {L L' : List (Nat × Ent)} {b bd bw bp : Nat} {K : Value → World → Prop} {c : Cu} {n : Int} {W : What} {d : Dat} {v : Value} {s : By} {a e t : Int}
instance [h : At w0 F w L] [r : Rm L b (cursor c) L'] : Step (Gv Try.prog F_rdata_cursor_data #[ptr b, whV W] w K) (OkW W ∧ ∀ v w', SlG v (c.data W).2.texts.length → At w0 F w' ((b, cursor (c.data W).1) :: (0, sl v (c.data W).2.texts.length (strs (c.data W).2.texts) 1) :: L') → K (daV (c.data W).2 v) w') :=
  ⟨fun ⟨hW, hk⟩ => Ct.call (A := [(b, cursor c)]) (c_data hW) r.perm h fun u B w' ⟨v, hu, hB⟩ h3 => by subst hu; rw [hB] at h3; exact hk v w' (At.slG (L := (b, cursor (c.data W).1) :: (0, sl v (c.data W).2.texts.length (strs (c.data W).2.texts) 1) :: L') h3 inferInstance) h3⟩
theorem cursor_new {br : Nat} {r : Rr} {s all : By} (h : At w0 F w L) [r1 : Rm L b (cells [ptr br, str s, .int .i64 0, str all] Y_rdata_cursor) L'] (h1 : all.length ≤ 1099511627776) {L2 : List (Nat × Ent)} [r2 : Rm L' br (reader r) L2] :
    At w0 F w ((b, cursor ⟨r, s, 0, all⟩) :: L2) := cursor_close h1 (h.perm (r1.perm.trans (r2.perm.cons _)))
theorem c_Read (hs : s.length ≤ 1048000) (h : At w0 F w L) (hk : ∀ v w', SlG v (rdD s a e t).1.texts.length → At w0 F w' ((0, sl v (rdD s a e t).1.texts.length (strs (rdD s a e t).1.texts) 1) :: L) → K (.tuple #[daV (rdD s a e t).1 v, .int .i64 (rdD s a e t).2]) w') : Gv Try.prog F_rdata_Read #[str s, .int .i64 a, .int .i64 e, .int .i64 t] w K := by
  refine ok_rdata_Read ?_
  unfold T_rdata_Read
  refine Step.out ?_
  intro bd w1 hA1
  clear h
  refine cutL (fun s' w => ∃ q : Bool, (q = true ↔ (a < 0 ∨ e < a ∨ s.length < e ∨ ¬ mayT t)) ∧ s' = [str s, .int .i64 a, .int .i64 e, .int .i64 t, ptr bd, .bool q] ∧ At w0 F w ((bd, cells (daC Dat.zero (.slice none 0 0)) Y_api_Data) :: L)) ?_ ?_
  · repeat' (first | refine Step.out ?_ | refine And.intro (fun h => ?_) (fun h => ?_) | intro _ | refine GW.i64 (by omega) ?_ | refine GW.u32 (by omega) ?_ | refine GW.u64 (by omega) ?_ | refine GW.u8 (by omega) ?_ | refine GW.u16 (by omega) ?_ | refine And.intro rfl ?_ | refine And.intro (by assumption) ?_ | refine And.intro (by omega) ?_ | refine And.intro (by simp only [List.length_append, List.length_replicate, List.length_drop, List.length_take, List.length_cons, List.length_nil, u8s_len, be_length]; omega) ?_ | fail)
    all_goals refine ⟨_, ?_, rfl, ‹_›⟩
    all_goals grind
  rintro ρ w ⟨q1, hq1, hs', hA⟩
  clear hA1
  simp only [pick, List.cons.injEq, and_true] at hs'
  obtain ⟨h0, h1, h2, h3, h4, h5⟩ := hs'
  simp only [h0, h1, h2, h3, h4, h5]
  by_cases hc : a < 0 ∨ e < a ∨ s.length < e ∨ ¬ mayT t
  · have hq : q1 = true := hq1.2 hc
    subst hq
    rw [rdD, if_pos hc] at hk
    repeat' (first | refine Step.out ?_ | refine And.intro (fun h => ?_) (fun h => ?_) | intro _ | refine GW.i64 (by omega) ?_ | refine GW.u32 (by omega) ?_ | refine GW.u64 (by omega) ?_ | refine GW.u8 (by omega) ?_ | refine GW.u16 (by omega) ?_ | refine And.intro rfl ?_ | refine And.intro (by assumption) ?_ | refine And.intro (by omega) ?_ | refine And.intro (by simp only [List.length_append, List.length_replicate, List.length_drop, List.length_take, List.length_cons, List.length_nil, u8s_len, be_length]; omega) ?_ | fail)
    exact hk _ _ ⟨.inl ⟨.inl rfl, rfl⟩⟩ (At.dk [bd] (At.slNil ‹_› 1))
  have hq : q1 = false := by
    cases q1 with
    | false => rfl
    | true => exact absurd (hq1.1 rfl) hc
  subst hq
  clear hq1
  have hmt : mayT t := Decidable.by_contra fun h => hc (.inr (.inr (.inr h)))
  have ha0 : 0 ≤ a ∧ a ≤ e ∧ e ≤ s.length := ⟨by omega, by omega, by omega⟩
  rw [rdD, if_neg hc] at hk
  obtain ⟨A, rfl⟩ : ∃ n : Nat, a = n := ⟨a.toNat, by omega⟩
  obtain ⟨E, rfl⟩ : ∃ n : Nat, e = n := ⟨e.toNat, by omega⟩
  simp only [Int.toNat_natCast] at hk
  have hlt : (s.take E).length = E := by simp; omega
  repeat' (first | refine Step.out ?_ | refine And.intro (fun h => ?_) (fun h => ?_) | intro _ | refine GW.i64 (by omega) ?_ | refine GW.u32 (by omega) ?_ | refine GW.u64 (by omega) ?_ | refine GW.u8 (by omega) ?_ | refine GW.u16 (by omega) ?_ | refine And.intro rfl ?_ | refine And.intro (by assumption) ?_ | refine And.intro (by omega) ?_ | refine And.intro (by simp only [List.length_append, List.length_replicate, List.length_drop, List.length_take, List.length_cons, List.length_nil, u8s_len, be_length]; omega) ?_ | fail)
  rename_i br w3 g3 bc w2 g2 w1' g1 w0' g0
  have hsk : (Rr.mk (s.take E) 0).seek A = (⟨s.take E, A⟩, 0) := by
    unfold Rr.seek
    rw [if_neg (by simp only [hlt]; omega)]; simp
  have hC := cursor_new (b := bc) (br := br) (h := g0) (by omega)
  simp only [Int.toNat_natCast, hsk] at hC
  have hC : At w0 F w0' ((bc, cursor (cu s E A)) :: (bd, cells (daC Dat.zero (.slice none 0 0)) Y_api_Data) :: L) := hC
  clear g0 g1 g2 g3 hA
  have hwt := whatOf_ok t
  have hdo : OkD ((cu s E A).data (whatOf t)).2 := data_ok _ (by simp only [cu, hlt]; omega) (by simp only [cu]; omega)
  repeat' (first | refine Step.out ?_ | refine And.intro (fun h => ?_) (fun h => ?_) | intro _ | refine GW.i64 (by omega) ?_ | refine GW.u32 (by omega) ?_ | refine GW.u64 (by omega) ?_ | refine GW.u8 (by omega) ?_ | refine GW.u16 (by omega) ?_ | refine And.intro rfl ?_ | refine And.intro (by assumption) ?_ | refine And.intro (by omega) ?_ | refine And.intro (by simp only [List.length_append, List.length_replicate, List.length_drop, List.length_take, List.length_cons, List.length_nil, u8s_len, be_length]; omega) ?_ | fail)
  all_goals generalize (cu s E A).data (whatOf t) = y at *
  · rw [if_pos (by assumption)] at hk
    exact hk _ _ ⟨.inl ⟨.inl rfl, rfl⟩⟩ (show At w0 F _ ((0, sl (.slice none 0 0) 0 [] 1) :: L) from At.sb (At.slNil ‹_› 1))
  · rw [if_neg (by assumption), if_pos (.inl (by assumption))] at hk
    exact hk _ _ ⟨.inl ⟨.inl rfl, rfl⟩⟩ (show At w0 F _ ((0, sl (.slice none 0 0) 0 [] 1) :: L) from At.sb (At.slNil ‹_› 1))
  · rw [if_neg (by assumption), if_pos (.inr (by assumption))] at hk
    exact hk _ _ ⟨.inl ⟨.inl rfl, rfl⟩⟩ (show At w0 F _ ((0, sl (.slice none 0 0) 0 [] 1) :: L) from At.sb (At.slNil ‹_› 1))
  · rw [if_neg (by assumption), if_neg (by rintro (h | h) <;> exact absurd h (by assumption))] at hk
    exact hk _ _ ‹_› (At.sb ‹_›)
instance [h : At w0 F w L] : Step (Gv Try.prog F_rdata_Read #[str s, .int .i64 a, .int .i64 e, .int .i64 t] w K) (s.length ≤ 1048000 ∧ ∀ v w', SlG v (rdD s a e t).1.texts.length → At w0 F w' ((0, sl v (rdD s a e t).1.texts.length (strs (rdD s a e t).1.texts) 1) :: L) → K (.tuple #[daV (rdD s a e t).1 v, .int .i64 (rdD s a e t).2]) w') :=
  ⟨fun ⟨h1, hk⟩ => c_Read h1 h hk⟩
end
end Go.Proofs.Ytkpinncakbnikaa
namespace Go.Proofs.Ytkpinncakbnikaa
open Go Np Go.Proofs
set_option linter.all false
set_option maxRecDepth 20000
section
variable {w0 w : World} {F : Fp} {L L' : List (Nat × Ent)} {b bd bw bp : Nat} {K : Value → World → Prop} {n : Nat} {d : Dat} {v : Value} {s : By} {a e t : Int}
theorem c_light (hd : OkD d) : Ct Try.prog F_nameplatekit_LightData #[daV d v] [(0, sl v n (strs d.texts) 1)] fun u B => u = .bool (dec (lightN d ≤ 2000)) ∧ B = [] := by
  intro w0 F w hA
  have hsl : SlG v n := hA.slG inferInstance
  have hln : d.texts.length = n := by have := hA.slLen (inferInstance : HasS _ v n (strs d.texts) 1); simpa [strs] using this
  have hnm := hd.name
  have hml := hd.mail
  have hrw := hd.raw
  have heach := hd.each
  have htl := hd.texts
  refine ok_nameplatekit_LightData ?_
  unfold T_nameplatekit_LightData
  repeat' (first | refine Step.out ?_ | refine And.intro (fun h => ?_) (fun h => ?_) | intro _ | refine GW.i64 (by omega) ?_ | refine GW.u32 (by omega) ?_ | refine GW.u64 (by omega) ?_ | refine GW.u8 (by omega) ?_ | refine GW.u16 (by omega) ?_ | refine And.intro rfl ?_ | refine And.intro (by assumption) ?_ | refine And.intro (by omega) ?_ | refine And.intro (by simp only [List.length_append, List.length_replicate, List.length_drop, List.length_take, List.length_cons, List.length_nil, u8s_len, be_length]; omega) ?_ | fail)
  rename_i b1 w1 hA1
  clear hA
  refine loopN (fun k s w => ∃ j : Nat, j + k = n ∧ s = [ptr b1, .int .i64 (d.raw.length + d.name.length + d.mail.length + ((d.texts.take j).map fun x => (x.length + 1 : Int)).sum), .int .i64 j] ∧
    At w0 F w [(b1, cells (daC d v) Y_api_Data), (0, sl v n (strs d.texts) 1)]) n ⟨0, by omega, by simp, hA1⟩ ?_
  rintro k ρ w ⟨j, hj, hs, hA⟩
  clear hA1
  simp only [pick, List.cons.injEq, and_true] at hs
  obtain ⟨h0, h1, h2⟩ := hs
  simp only [h0, h1, h2]
  have hb3 := sum_le (fun x : By => (x.length + 1 : Int)) (d.texts.take j) 1048577 (fun x hx => by have := heach x (List.mem_of_mem_take hx); omega)
  have hb4 : ((d.texts.take j).length : Int) ≤ 1048576 := by simp; omega
  have hb5 : j < n → (d.texts.getD j []).length ≤ 1048576 := fun h => heach _ (by rw [List.getD_eq_getElem?_getD, List.getElem?_eq_getElem (by omega)]; simp)
  repeat' (first | refine Step.out ?_ | refine And.intro (fun h => ?_) (fun h => ?_) | intro _ | refine GW.i64 (by omega) ?_ | refine GW.u32 (by omega) ?_ | refine GW.u64 (by omega) ?_ | refine GW.u8 (by omega) ?_ | refine GW.u16 (by omega) ?_ | refine And.intro rfl ?_ | refine And.intro (by assumption) ?_ | refine And.intro (by omega) ?_ | refine And.intro (by simp only [List.length_append, List.length_replicate, List.length_drop, List.length_take, List.length_cons, List.length_nil, u8s_len, be_length]; omega) ?_ | fail)
  · rw [Int.toNat_natCast]
    have hb5 := hb5 (by omega)
    repeat' (first | refine Step.out ?_ | refine And.intro (fun h => ?_) (fun h => ?_) | intro _ | refine GW.i64 (by omega) ?_ | refine GW.u32 (by omega) ?_ | refine GW.u64 (by omega) ?_ | refine GW.u8 (by omega) ?_ | refine GW.u16 (by omega) ?_ | refine And.intro rfl ?_ | refine And.intro (by assumption) ?_ | refine And.intro (by omega) ?_ | refine And.intro (by simp only [List.length_append, List.length_replicate, List.length_drop, List.length_take, List.length_cons, List.length_nil, u8s_len, be_length]; omega) ?_ | fail)
    refine ⟨k - 1, by omega, j + 1, by omega, ?_, ‹_›⟩
    rw [sum_take (fun x : By => (x.length + 1 : Int)) _ [] (by omega)]
    simp only [List.cons.injEq, Value.int.injEq, true_and, and_true]
    omega
  · have e6 : d.texts.take j = d.texts := List.take_of_length_le (by omega)
    rw [e6]
    exact ⟨_, ⟨rfl, rfl⟩, At.emp ‹_›⟩
instance [h : At w0 F w L] [r : HasS L v n (strs d.texts) 1] : Step (Gv Try.prog F_nameplatekit_LightData #[daV d v] w K) (OkD d ∧ ∀ w', At w0 F w' L → K (.bool (dec (lightN d ≤ 2000))) w') := ⟨fun ⟨h2, hk⟩ =>
  Ct.readS (φ := fun u => u = .bool (dec (lightN d ≤ 2000))) (c_light h2) h r fun u w' hu hA => by
    rw [hu]; exact hk _ hA⟩
instance [h : At w0 F w L] : Step (Gv Try.prog F_nameplatelaw09_lives #[] w K) (∀ w', At w0 F w' L → K (.bool true) w') := ⟨fun hk => by
  refine ok_nameplatelaw09_lives ?_
  unfold T_nameplatelaw09_lives
  repeat' (first | refine Step.out ?_ | refine And.intro (fun h => ?_) (fun h => ?_) | intro _ | refine GW.i64 (by omega) ?_ | refine GW.u32 (by omega) ?_ | refine GW.u64 (by omega) ?_ | refine GW.u8 (by omega) ?_ | refine GW.u16 (by omega) ?_ | refine And.intro rfl ?_ | refine And.intro (by assumption) ?_ | refine And.intro (by omega) ?_ | refine And.intro (by simp only [List.length_append, List.length_replicate, List.length_drop, List.length_take, List.length_cons, List.length_nil, u8s_len, be_length]; omega) ?_ | fail)
  have hA1 := ‹At w0 F _ ((_, cells _ _) :: _)›
  haveI hA2 : At w0 F _ ((0, sl (.slice none 0 0) 0 (strs dMx.texts) 1) :: _) := At.slNil hA1 1
  have hok := dMx_good.ok
  have hsz := live_size
  have hrd := live_read
  refine (show Gv Try.prog F_rdata_Size #[.int .i64 15, daV dMx (.slice none 0 0)] _ _ from ?_)
  refine Step.out ⟨hok, ?_⟩
  intro w5 hA5
  rw [hsz, hrd]
  repeat' (first | refine Step.out ?_ | refine And.intro (fun h => ?_) (fun h => ?_) | intro _ | refine GW.i64 (by omega) ?_ | refine GW.u32 (by omega) ?_ | refine GW.u64 (by omega) ?_ | refine GW.u8 (by omega) ?_ | refine GW.u16 (by omega) ?_ | refine And.intro rfl ?_ | refine And.intro (by assumption) ?_ | refine And.intro (by omega) ?_ | refine And.intro (by simp only [List.length_append, List.length_replicate, List.length_drop, List.length_take, List.length_cons, List.length_nil, u8s_len, be_length]; omega) ?_ | fail)
  · rw [hrd]
    have e1 : (dec (dLive.addr.six = false) && (dec ((dLive.addr.hi : Int) = 0) && dec ((dLive.addr.lo : Int) = 16909060))) = true := by simp [dec_eq, dLive]
    exact e1 ▸ hk _ (At.sb hA5)
  · exact absurd rfl (by assumption)
  · exact absurd rfl (by assumption)⟩
instance {p : Pk} [h : At w0 F w L] [r : Rm L b (packer p) L'] [hs : HasS L v n (strs d.texts) 1] : Step (Gv Try.prog F_rdata_Put #[ptr b, .int .i64 t, daV d v] w K) (OkD d ∧ ∀ w', At w0 F w' ((b, packer (putD p t d).1) :: L') → K (.int .i64 (putD p t d).2) w') :=
  ⟨fun ⟨hd, hk⟩ => Ct.call (A := [(b, packer p), (0, sl v n (strs d.texts) 1)]) (R := L') (c_Put (p := p) hd) ((r.perm.cons _).trans (List.Perm.swap _ _ _)) (h.dupS hs) fun u B w' ⟨h1, h2⟩ h3 => by
    subst h1; rw [h2] at h3; exact hk w' h3⟩
instance (priority := high) [h : At w0 F w L] : Step (Gv Try.prog F_pack_New #[.int .i64 65535] w K) (∀ b w', At w0 F w' ((b, packer pk0) :: L) → K (ptr b) w') := ⟨fun hk => Step.out fun b w' hA => hk b w' hA⟩
theorem be1 {k : Nat} (h : k ≤ 255) : u8s (be 1 k) = [Value.int .u8 (k : Int)] := by
  simp [u8s, be, List.range_succ]; omega
theorem fin_true {w0 w w' : World} {F : Fp} {L : List (Nat × Ent)} {q : Bool} (h : q = true) (hA : At w0 F w' L) : (Value.bool q = .bool true) ∧ At w0 F w' [] := ⟨by rw [h], At.emp hA⟩
/-- texts -/
theorem law_Texts {l : List By} {raw : By} (hl : l.length ≤ 1048576) (he : ∀ x ∈ l, x.length ≤ 1048576) (hr : raw.length ≤ 1048576) (h : At w0 F w [(0, sl v n (strs l) 1)]) :
    Gv Try.prog F_nameplatelaw09_RdataTexts #[v, str raw] w fun u w' => u = .bool true ∧ At w0 F w' [] := by
  have hsl : SlG v n := h.slG inferInstance
  have hln : l.length = n := by have := h.slLen (inferInstance : HasS _ v n (strs l) 1); simpa [strs] using this
  refine ok_nameplatelaw09_RdataTexts ?_
  unfold T_nameplatelaw09_RdataTexts
  refine Step.out ?_
  intro w1 hA1
  clear h
  repeat' (first | refine Step.out ?_ | refine And.intro (fun h => ?_) (fun h => ?_) | intro _ | refine GW.i64 (by omega) ?_ | refine GW.u32 (by omega) ?_ | refine GW.u64 (by omega) ?_ | refine GW.u8 (by omega) ?_ | refine GW.u16 (by omega) ?_ | refine And.intro rfl ?_ | refine And.intro (by assumption) ?_ | refine And.intro (by omega) ?_ | refine And.intro (by simp only [List.length_append, List.length_replicate, List.length_drop, List.length_take, List.length_cons, List.length_nil, u8s_len, be_length]; omega) ?_ | fail)
  refine cutL (fun s w => ∃ q : Bool, (q = true ↔ (l = [] ∨ 20 < l.length ∨ 1500 < raw.length)) ∧ s = [v, str raw, .bool q] ∧ At w0 F w [(0, sl v n (strs l) 1)]) ?_ ?_
  · have hnil : l = [] ↔ n = 0 := by rw [← hln]; exact List.length_eq_zero_iff.symm
    repeat' (first | refine Step.out ?_ | refine And.intro (fun h => ?_) (fun h => ?_) | intro _ | refine GW.i64 (by omega) ?_ | refine GW.u32 (by omega) ?_ | refine GW.u64 (by omega) ?_ | refine GW.u8 (by omega) ?_ | refine GW.u16 (by omega) ?_ | refine And.intro rfl ?_ | refine And.intro (by assumption) ?_ | refine And.intro (by omega) ?_ | refine And.intro (by simp only [List.length_append, List.length_replicate, List.length_drop, List.length_take, List.length_cons, List.length_nil, u8s_len, be_length]; omega) ?_ | fail)
    all_goals refine ⟨_, ?_, rfl, ‹_›⟩
    all_goals first | (rw [dec_iff]; grind) | grind
  rintro ρ w ⟨q1, hq1, hs, hA⟩
  simp only [pick, List.cons.injEq, and_true] at hs
  obtain ⟨h0, h1, h2⟩ := hs
  simp only [h0, h1, h2]
  repeat' (first | refine Step.out ?_ | refine And.intro (fun h => ?_) (fun h => ?_) | intro _ | refine GW.i64 (by omega) ?_ | refine GW.u32 (by omega) ?_ | refine GW.u64 (by omega) ?_ | refine GW.u8 (by omega) ?_ | refine GW.u16 (by omega) ?_ | refine And.intro rfl ?_ | refine And.intro (by assumption) ?_ | refine And.intro (by omega) ?_ | refine And.intro (by simp only [List.length_append, List.length_replicate, List.length_drop, List.length_take, List.length_cons, List.length_nil, u8s_len, be_length]; omega) ?_ | fail)
  · exact ⟨trivial, At.emp hA⟩
  have hn : ¬ (l = [] ∨ 20 < l.length ∨ 1500 < raw.length) := fun h => ‹¬ q1 = true› (hq1.2 h)
  have hne : l ≠ [] := fun h => hn (.inl h)
  clear hA1
  refine loopN (fun k s w => ∃ i : Nat, i + k = n ∧ (∀ x ∈ l.take i, x.length ≤ 255) ∧ s = [v, str raw, str (textsB (l.take i)), .int .i64 i] ∧ At w0 F w [(0, sl v n (strs l) 1)]) n ⟨0, by omega, by simp, rfl, hA⟩ ?_
  clear hA
  rintro k ρ w ⟨i, hi, hpre, hs, hA⟩
  simp only [pick, List.cons.injEq, and_true] at hs
  obtain ⟨h0, h1, h2, h3⟩ := hs
  simp only [h0, h1, h2, h3]
  have hgl : i < n → (l.getD i []).length ≤ 1048576 ∧ l.getD i [] ∈ l := fun h => by
    have e : l.getD i [] = l[i]'(by omega) := by simp [List.getD_eq_getElem?_getD, List.getElem?_eq_getElem (show i < l.length by omega)]
    rw [e]; exact ⟨he _ (List.getElem_mem _), List.getElem_mem _⟩
  repeat' (first | refine Step.out ?_ | refine And.intro (fun h => ?_) (fun h => ?_) | intro _ | refine GW.i64 (by omega) ?_ | refine GW.u32 (by omega) ?_ | refine GW.u64 (by omega) ?_ | refine GW.u8 (by omega) ?_ | refine GW.u16 (by omega) ?_ | refine And.intro rfl ?_ | refine And.intro (by assumption) ?_ | refine And.intro (by omega) ?_ | refine And.intro (by simp only [List.length_append, List.length_replicate, List.length_drop, List.length_take, List.length_cons, List.length_nil, u8s_len, be_length]; omega) ?_ | fail)
  · have h2 := ‹255 < (_ : Int)›
    rw [Int.toNat_natCast] at h2
    have hlong := dTexts_long hne ⟨l.getD i [], (hgl (by omega)).2, by omega⟩
    have hok := dTexts_ok hl he
    refine (show Gv Try.prog F_rdata_Check #[.int .i64 16, daV (dTexts l) v] _ _ from ?_)
    haveI hA2 : At w0 F w [(0, sl v n (strs (dTexts l).texts) 1)] := hA
    refine Step.out ⟨hok, ?_⟩
    intro w5 hA5
    rw [hlong]
    repeat' (first | refine Step.out ?_ | refine And.intro (fun h => ?_) (fun h => ?_) | intro _ | refine GW.i64 (by omega) ?_ | refine GW.u32 (by omega) ?_ | refine GW.u64 (by omega) ?_ | refine GW.u8 (by omega) ?_ | refine GW.u16 (by omega) ?_ | refine And.intro rfl ?_ | refine And.intro (by assumption) ?_ | refine And.intro (by omega) ?_ | refine And.intro (by simp only [List.length_append, List.length_replicate, List.length_drop, List.length_take, List.length_cons, List.length_nil, u8s_len, be_length]; omega) ?_ | fail)
    exact ⟨by rw [dec_eq]; rfl, At.emp hA5⟩
  · rw [Int.toNat_natCast] at *
    have hgi := hgl (by omega)
    have hx : (l.getD i []).length ≤ 255 := by omega
    have htb : (textsB (l.take i)).length ≤ i * 256 := textsB_le hpre (by simp; omega)
    repeat' (first | refine Step.out ?_ | refine And.intro (fun h => ?_) (fun h => ?_) | intro _ | refine GW.i64 (by omega) ?_ | refine GW.u32 (by omega) ?_ | refine GW.u64 (by omega) ?_ | refine GW.u8 (by omega) ?_ | refine GW.u16 (by omega) ?_ | refine And.intro rfl ?_ | refine And.intro (by assumption) ?_ | refine And.intro (by omega) ?_ | refine And.intro (by simp only [List.length_append, List.length_replicate, List.length_drop, List.length_take, List.length_cons, List.length_nil, u8s_len, be_length]; omega) ?_ | fail)
    have hA3 := ‹At w0 F _ ((_, own _ _ _ _ _) :: _)›
    rw [← be1 hx] at hA3
    repeat' (first | refine Step.out ?_ | refine And.intro (fun h => ?_) (fun h => ?_) | intro _ | refine GW.i64 (by omega) ?_ | refine GW.u32 (by omega) ?_ | refine GW.u64 (by omega) ?_ | refine GW.u8 (by omega) ?_ | refine GW.u16 (by omega) ?_ | refine And.intro rfl ?_ | refine And.intro (by assumption) ?_ | refine And.intro (by omega) ?_ | refine And.intro (by simp only [List.length_append, List.length_replicate, List.length_drop, List.length_take, List.length_cons, List.length_nil, u8s_len, be_length]; omega) ?_ | fail)
    refine ⟨k - 1, by omega, i + 1, by omega, ?_, ?_, At.sb ‹_›⟩
    · intro x hm
      rw [List.take_succ_eq_append_getElem (by omega)] at hm
      rcases List.mem_append.1 hm with hm | hm
      · exact hpre x hm
      · simp at hm; subst hm
        have : l.getD i [] = l[i]'(by omega) := by simp [List.getD_eq_getElem?_getD, List.getElem?_eq_getElem (show i < l.length by omega)]
        rw [← this]; exact hx
    · rw [List.take_succ_eq_append_getElem (by omega), textsB_snoc]
      have : l.getD i [] = l[i]'(by omega) := by simp [List.getD_eq_getElem?_getD, List.getElem?_eq_getElem (show i < l.length by omega)]
      rw [← this, List.append_assoc]
      simp
  have hin : l.take i = l := List.take_of_length_le (by omega)
  rw [hin] at hpre ⊢
  obtain ⟨t1, t2, t3, t4⟩ := texts_put hne (by omega) hpre
  obtain ⟨r1, r2, r3⟩ := raw_put (r := raw) (by omega)
  have hok := dTexts_ok hl he
  have hok2 := dRaw_ok hr
  rename_i b1 w1 g1 b2 w2 hA3
  haveI g : At w0 F w2 ((b2, packer pk0) :: (b1, packer pk0) :: (0, sl v n (strs (dTexts l).texts) 1) :: []) := hA3
  refine (show Gv Try.prog F_rdata_Put #[ptr b1, .int .i64 16, daV (dTexts l) v] _ _ from ?_)
  refine Step.out ⟨hok, ?_⟩
  intro w5 hA5
  repeat' (first | refine Step.out ?_ | refine And.intro (fun h => ?_) (fun h => ?_) | intro _ | refine GW.i64 (by omega) ?_ | refine GW.u32 (by omega) ?_ | refine GW.u64 (by omega) ?_ | refine GW.u8 (by omega) ?_ | refine GW.u16 (by omega) ?_ | refine And.intro rfl ?_ | refine And.intro (by assumption) ?_ | refine And.intro (by omega) ?_ | refine And.intro (by simp only [List.length_append, List.length_replicate, List.length_drop, List.length_take, List.length_cons, List.length_nil, u8s_len, be_length]; omega) ?_ | fail)
  haveI g2 : At w0 F w5 ((0, sl (.slice none 0 0) 0 (strs (dRaw raw).texts) 1) :: _) := At.slNil hA5 1
  refine (show Gv Try.prog F_rdata_Put #[ptr b2, .int .i64 9999, daV (dRaw raw) (.slice none 0 0)] _ _ from ?_)
  refine Step.out ⟨hok2, ?_⟩
  intro w6 hA6
  repeat' (first | refine Step.out ?_ | refine And.intro (fun h => ?_) (fun h => ?_) | intro _ | refine GW.i64 (by omega) ?_ | refine GW.u32 (by omega) ?_ | refine GW.u64 (by omega) ?_ | refine GW.u8 (by omega) ?_ | refine GW.u16 (by omega) ?_ | refine And.intro rfl ?_ | refine And.intro (by assumption) ?_ | refine And.intro (by omega) ?_ | refine And.intro (by simp only [List.length_append, List.length_replicate, List.length_drop, List.length_take, List.length_cons, List.length_nil, u8s_len, be_length]; omega) ?_ | fail)
  all_goals first | exact absurd t1 (by assumption) | exact absurd t2 (by assumption) | skip
  rename_i w8 hA8
  clear g1 hA3 g g2 hA5 hA6
  refine (show Gv Try.prog F_rdata_Size #[.int .i64 16, daV (dTexts l) v] _ _ from ?_)
  refine Step.out ⟨hok, ?_⟩
  intro w9 hA9
  repeat' (first | refine Step.out ?_ | refine And.intro (fun h => ?_) (fun h => ?_) | intro _ | refine GW.i64 (by omega) ?_ | refine GW.u32 (by omega) ?_ | refine GW.u64 (by omega) ?_ | refine GW.u8 (by omega) ?_ | refine GW.u16 (by omega) ?_ | refine And.intro rfl ?_ | refine And.intro (by assumption) ?_ | refine And.intro (by omega) ?_ | refine And.intro (by simp only [List.length_append, List.length_replicate, List.length_drop, List.length_take, List.length_cons, List.length_nil, u8s_len, be_length]; omega) ?_ | fail)
  all_goals first | exact absurd t3 (by assumption) | exact absurd r1 (by assumption) | exact absurd r2 (by assumption) | skip
  · rw [r3]; exact ⟨by rw [dec_eq]; simp [dRaw], At.emp ‹_›⟩
  · exact absurd (congrArg Prod.snd r3) (by assumption)
end
end Go.Proofs.Ytkpinncakbnikaa
