/- What the program's encoding of a packet is; no conditions but the body's size. -/
import Derived.Test.YthepnjbefngooaaHCheck
import Derived.Test.YthepnjbefngooaaMPktOrderSum
import Derived.Test.YthepnjbefngooaaPPktOrderx3
namespace Go.Proofs.Ythepnjbefngooaa.H
set_option linter.unusedSimpArgs false
set_option linter.unusedVariables false
open Go Go.RowKit Go.Proofs.Ythepnjbefngooaa.PPktOrder Go.Proofs.YthepnjbefngooaaW.PrintWords Go.Proofs.YthepnjbefngooaaW.PrintLast Go.Proofs.YthepnjbefngooaaW.PrintMore Go.Proofs.Ythepnjbefngooaa.Plain

theorem shr_eq (x : Int) (j : Nat) (hj : j ≤ 64) : shr .i64 x (wrap64 (8 * ((j : Int) / 8))) = shr .i64 x (wrap64 (8 * ((j : Int) / 8))) := rfl

theorem put2_ev (l : List Int) (a : Int) (hl : l.length ≤ 1000) (k : Nat) : pkt_put.f (k + 4) l a 2 = some (l ++ [a / 256 % 256, a % 256]) := by
  have e1 : wrap64 (2 - 1) = 1 := w64 (by decide) (by decide)
  have e2 : wrap64 (8 * 1) = 8 := w64 (by decide) (by decide)
  have e3 : wrap64 (1 - 1) = 0 := w64 (by decide) (by decide)
  have e4 : wrap64 (8 * 0) = 0 := w64 (by decide) (by decide)
  have e5 : wrap64 (0 - 1) = -1 := w64 (by decide) (by decide)
  have s1 : shr .i64 a 8 = a / 256 := rfl
  have s0 : shr .i64 a 0 = a := by unfold shr; simp
  unfold pkt_put.f
  rw [e1]
  simp only [pkt_put.l0]
  rw [if_pos (by decide), e2, if_pos (by decide), if_pos (by omega), s1, e3, if_pos (by decide), e4, if_pos (by decide), if_pos (by simp; omega), s0, e5, if_neg (by decide)]
  simp

theorem put4_ev (l : List Int) (a : Int) (hl : l.length ≤ 1000) (k : Nat) : pkt_put.f (k + 6) l a 4 = some (l ++ [a / 16777216 % 256, a / 65536 % 256, a / 256 % 256, a % 256]) := by
  have e1 : wrap64 (4 - 1) = 3 := w64 (by decide) (by decide)
  have e1' : wrap64 (8 * 3) = 24 := w64 (by decide) (by decide)
  have e2 : wrap64 (3 - 1) = 2 := w64 (by decide) (by decide)
  have e2' : wrap64 (8 * 2) = 16 := w64 (by decide) (by decide)
  have e3 : wrap64 (2 - 1) = 1 := w64 (by decide) (by decide)
  have e3' : wrap64 (8 * 1) = 8 := w64 (by decide) (by decide)
  have e4 : wrap64 (1 - 1) = 0 := w64 (by decide) (by decide)
  have e4' : wrap64 (8 * 0) = 0 := w64 (by decide) (by decide)
  have e5 : wrap64 (0 - 1) = -1 := w64 (by decide) (by decide)
  have s3 : shr .i64 a 24 = a / 16777216 := rfl
  have s2 : shr .i64 a 16 = a / 65536 := rfl
  have s1 : shr .i64 a 8 = a / 256 := rfl
  have s0 : shr .i64 a 0 = a := by unfold shr; simp
  unfold pkt_put.f
  rw [e1]
  simp only [pkt_put.l0]
  rw [if_pos (by decide), e1', if_pos (by decide), if_pos (by omega), s3, e2, if_pos (by decide), e2', if_pos (by decide), if_pos (by simp; omega), s2, e3, if_pos (by decide), e3', if_pos (by decide), if_pos (by simp; omega), s1, e4, if_pos (by decide), e4', if_pos (by decide), if_pos (by simp; omega), s0, e5, if_neg (by decide)]
  simp

/-- The number with the place and the flags. -/
def flagv (off : Int) (more whole : Bool) : Int := off / 8 + (if whole = true then 16384 else 0) + (if more = true then 8192 else 0)
/-- A packet's header with a checksum. -/
def hdr (src dst proto ttl id off : Int) (more whole : Bool) (size : Nat) (sum : Int) : List Int :=
  [69, 0, (20 + (size : Int)) / 256 % 256, (20 + (size : Int)) % 256, id / 256 % 256, id % 256, flagv off more whole / 256 % 256, flagv off more whole % 256, ttl % 256, proto % 256, sum / 256 % 256, sum % 256,
    src / 16777216 % 256, src / 65536 % 256, src / 256 % 256, src % 256, dst / 16777216 % 256, dst / 65536 % 256, dst / 256 % 256, dst % 256]

theorem or8192 {x : Int} (h0 : 0 ≤ x) (h1 : x < 8192) : bits .or .i64 x 8192 = x + 8192 := by
  have hc : (8192 : Int) = ((8192 : Nat) : Int) := rfl
  have := bits_join .i64 63 (by decide) wraps_i64 13 8192 x (by decide) (by decide) (by decide) h0 (by simpa using h1) (by omega)
  have e : bits .or .i64 x 8192 = bits .or .i64 8192 x := by
    obtain ⟨a, rfl⟩ := Int.eq_ofNat_of_zero_le h0
    have h := (bits_nat .i64 63 (by decide) wraps_i64 a 8192 (by omega) (by decide)).2
    have h' := (bits_nat .i64 63 (by decide) wraps_i64 8192 a (by decide) (by omega)).2
    rw [Nat.or_comm] at h'
    exact h.trans h'.symm
  rw [e, this]; omega
theorem or16384 {x : Int} (h0 : 0 ≤ x) (h1 : x < 8192) : bits .or .i64 x 16384 = x + 16384 := by
  have := bits_join .i64 63 (by decide) wraps_i64 13 16384 x (by decide) (by decide) (by decide) h0 (by simpa using h1) (by omega)
  have e : bits .or .i64 x 16384 = bits .or .i64 16384 x := by
    obtain ⟨a, rfl⟩ := Int.eq_ofNat_of_zero_le h0
    have h := (bits_nat .i64 63 (by decide) wraps_i64 a 16384 (by omega) (by decide)).2
    have h' := (bits_nat .i64 63 (by decide) wraps_i64 16384 a (by decide) (by omega)).2
    rw [Nat.or_comm] at h'
    exact h.trans h'.symm
  rw [e, this]; omega

theorem header_ev (a0 a1 a2 a3 a4 a5 : Int) (a6 a7 : Bool) (a8 : ByteArray) (sum : Int) (hs : a8.size ≤ 1500) (h0 : 0 ≤ a0 ∧ a0 ≤ 4294967295) (h1 : 0 ≤ a1 ∧ a1 ≤ 4294967295) (h5 : 0 ≤ a5 ∧ a5 ≤ 65528) (hmw : ¬ (a6 = true ∧ a7 = true)) (k : Nat) :
    pkt_header.f (k + 20) a0 a1 a2 a3 a4 a5 a6 a7 a8 sum = some (hdr a0 a1 a2 a3 a4 a5 a6 a7 a8.size sum) := by
  have et : wrap64 (Int.tdiv a5 8) = a5 / 8 := by rw [Int.tdiv_eq_ediv_of_nonneg h5.1, w64 (by omega) (by omega)]
  have e20 : wrap64 (20 + (a8.size : Int)) = 20 + (a8.size : Int) := w64 (by omega) (by omega)
  have j1 : ∀ fl : Int, ∀ k, pkt_header.j1 (k + 10) sum fl a0 a1 a2 a3 a4 a5 a6 a7 a8 = some ([69, 0, (20 + (a8.size : Int)) / 256 % 256, (20 + (a8.size : Int)) % 256, a4 / 256 % 256, a4 % 256, fl / 256 % 256, fl % 256, a3 % 256, a2 % 256, sum / 256 % 256, sum % 256,
    a0 / 16777216 % 256, a0 / 65536 % 256, a0 / 256 % 256, a0 % 256, a1 / 16777216 % 256, a1 / 65536 % 256, a1 / 256 % 256, a1 % 256]) := by
    intro fl k
    simp only [pkt_header.j1]
    rw [e20, show k + 9 = (k + 5) + 4 by omega, put2_ev _ _ (by simp)]
    rw [Option.bind_some, put2_ev _ _ (by simp), Option.bind_some, put2_ev _ _ (by simp), Option.bind_some, Option.bind_some, if_pos (by simp), put2_ev _ _ (by simp), Option.bind_some, show k + 5 + 4 = (k + 3) + 6 by omega, put4_ev _ _ (by simp), Option.bind_some, put4_ev _ _ (by simp), Option.bind_some, w64 (n := a0) (by omega) (by omega), w64 (n := a1) (by omega) (by omega)]
    simp
  have j0 : ∀ fl : Int, ∀ k, pkt_header.j0 (k + 11) sum fl a0 a1 a2 a3 a4 a5 a6 a7 a8 = pkt_header.j1 (k + 10) sum (if a6 = true then bits .or .i64 fl 8192 else fl) a0 a1 a2 a3 a4 a5 a6 a7 a8 := by
    intro fl k
    simp only [pkt_header.j0]
    split <;> rfl
  unfold pkt_header.f
  rw [et]
  cases a7
  · rw [if_neg (by decide), show k + 20 = (k + 9) + 11 by omega, j0, j1]
    cases a6
    · simp [hdr, flagv]
    · rw [if_pos rfl, or8192 (by omega) (by omega)]
      simp [hdr, flagv]
  · cases a6
    · rw [if_pos rfl, show k + 20 = (k + 9) + 11 by omega, j0, j1, if_neg (by decide), or16384 (by omega) (by omega)]
      simp [hdr, flagv]
    · exact absurd ⟨rfl, rfl⟩ hmw

/-- The encoding of a packet. -/
def encv (src dst proto ttl id off : Int) (more whole : Bool) (body : ByteArray) : ByteArray :=
  strOfNums (hdr src dst proto ttl id off more whole body.size (sumv (strOfNums (hdr src dst proto ttl id off more whole body.size 0)))) ++ body
theorem encv_size (src dst proto ttl id off : Int) (more whole : Bool) (body : ByteArray) : (encv src dst proto ttl id off more whole body).size = 20 + body.size := by
  unfold encv
  rw [ByteArray.size_append, size_strOfNums]
  rfl
theorem check_zero {proto ttl id off : Int} {more whole : Bool} {size : Nat} (h : checkv proto ttl id off more whole size = 0) :
    (0 ≤ proto ∧ proto ≤ 255) ∧ (1 ≤ ttl ∧ ttl ≤ 255) ∧ (0 ≤ id ∧ id ≤ 65535) ∧ (0 ≤ off ∧ off ≤ 65528) ∧ size ≤ 1500 ∧ off + size ≤ 65535 ∧ off % 8 = 0 ∧ (more = true → size % 8 = 0) ∧ ((more = true ∨ 0 < off) → 0 < size ∧ whole = false) := by
  unfold checkv at h
  split at h
  · omega
  split at h
  · omega
  split at h
  · omega
  rename_i c1 c2 c3
  refine ⟨by omega, by omega, by omega, by omega, by omega, by omega, by omega, ?_, ?_⟩
  · intro hm
    apply Decidable.byContradiction
    intro hn
    exact c3 (.inr (.inl ⟨hm, hn⟩))
  · intro hm
    constructor
    · apply Decidable.byContradiction
      intro hn
      exact c3 (.inr (.inr ⟨hm, .inl (by omega)⟩))
    · cases hw : whole
      · rfl
      · exact absurd (.inr (.inr ⟨hm, .inr hw⟩)) c3

theorem encode_ev (a0 a1 a2 a3 a4 a5 : Int) (a6 a7 : Bool) (a8 : ByteArray) (h0 : 0 ≤ a0 ∧ a0 ≤ 4294967295) (h1 : 0 ≤ a1 ∧ a1 ≤ 4294967295) (hc : checkv a2 a3 a4 a5 a6 a7 a8.size = 0) :
    Ev (fun k => pkt_Encode.f k a0 a1 a2 a3 a4 a5 a6 a7 a8) (encv a0 a1 a2 a3 a4 a5 a6 a7 a8, 0) := by
  obtain ⟨r2, r3, r4, r5, rs, ro, r8, rm, rw_⟩ := check_zero hc
  have hmw : ¬ (a6 = true ∧ a7 = true) := by
    rintro ⟨h, h'⟩
    have := (rw_ (.inl h)).2
    rw [this] at h'
    cases h'
  have hh : ∀ sum, Ev (fun k => pkt_header.f k a0 a1 a2 a3 a4 a5 a6 a7 a8 sum) (hdr a0 a1 a2 a3 a4 a5 a6 a7 a8.size sum) :=
    fun sum => Ev.of (fun k => pkt_header.mono _ _ _ _ _ _ _ _ _ _ k) (header_ev a0 a1 a2 a3 a4 a5 a6 a7 a8 sum rs h0 h1 r5 hmw 0)
  have hz : ∀ sum, (strOfNums (hdr a0 a1 a2 a3 a4 a5 a6 a7 a8.size sum)).size = 20 := fun sum => by rw [size_strOfNums]; rfl
  unfold pkt_Encode.f
  have e0 := check_eval a0 a1 a2 a3 a4 a5 a6 a7 a8 (by omega)
  rw [hc] at e0
  refine Ev.bind (Ev.of (fun k => pkt_Check.mono _ _ _ _ _ _ _ _ _ k) e0) ?_
  refine Ev.pos rfl ?_
  refine Ev.bind (hh 0) ?_
  refine Ev.bind (sum_ev _ (by rw [hz]; omega)) ?_
  refine Ev.bind (hh _) ?_
  refine Ev.pos (by rw [hz]; omega) ?_
  exact Ev.ret rfl

theorem encode_bad (a0 a1 a2 a3 a4 a5 : Int) (a6 a7 : Bool) (a8 : ByteArray) (hs : a8.size ≤ 140737488351232) (hc : checkv a2 a3 a4 a5 a6 a7 a8.size ≠ 0) :
    Ev (fun k => pkt_Encode.f k a0 a1 a2 a3 a4 a5 a6 a7 a8) (⟨#[]⟩, checkv a2 a3 a4 a5 a6 a7 a8.size) := by
  unfold pkt_Encode.f
  refine Ev.bind (Ev.of (fun k => pkt_Check.mono _ _ _ _ _ _ _ _ _ k) (check_eval a0 a1 a2 a3 a4 a5 a6 a7 a8 hs)) ?_
  exact Ev.neg hc (Ev.ret rfl)

/-- pkt.Encode of a valid packet. -/
theorem encode_calls (a0 a1 a2 a3 a4 a5 : Int) (a6 a7 : Bool) (a8 : ByteArray) (h0 : 0 ≤ a0 ∧ a0 ≤ 4294967295) (h1 : 0 ≤ a1 ∧ a1 ≤ 4294967295) (hc : checkv a2 a3 a4 a5 a6 a7 a8.size = 0) (w : World) :
    Calls Try.prog 23 #[.agg #[.int .u32 a0, .int .u32 a1, .int .i64 a2, .int .i64 a3, .int .i64 a4, .int .i64 a5, .bool a6, .bool a7, .string a8]] w fun e w' => e = .returned (.tuple #[.string (encv a0 a1 a2 a3 a4 a5 a6 a7 a8), .int .i64 0]) ∧ Below w.heap.size w w' := by
  obtain ⟨k, hk⟩ := Ev.rounds (encode_ev a0 a1 a2 a3 a4 a5 a6 a7 a8 h0 h1 hc)
  exact pkt_Encode.calls k a0 a1 a2 a3 a4 a5 a6 a7 a8 _ _ w hk
theorem encode_calls_bad (a0 a1 a2 a3 a4 a5 : Int) (a6 a7 : Bool) (a8 : ByteArray) (hs : a8.size ≤ 140737488351232) (hc : checkv a2 a3 a4 a5 a6 a7 a8.size ≠ 0) (w : World) :
    Calls Try.prog 23 #[.agg #[.int .u32 a0, .int .u32 a1, .int .i64 a2, .int .i64 a3, .int .i64 a4, .int .i64 a5, .bool a6, .bool a7, .string a8]] w fun e w' => e = .returned (.tuple #[.string ⟨#[]⟩, .int .i64 (checkv a2 a3 a4 a5 a6 a7 a8.size)]) ∧ Below w.heap.size w w' := by
  obtain ⟨k, hk⟩ := Ev.rounds (encode_bad a0 a1 a2 a3 a4 a5 a6 a7 a8 hs hc)
  exact pkt_Encode.calls k a0 a1 a2 a3 a4 a5 a6 a7 a8 _ _ w hk
theorem pktLives_calls (w : World) : Calls Try.prog 16 #[] w fun e w' => e = .returned (.bool true) ∧ Below w.heap.size w w' :=
  patchbaykeep2_pktLives.calls 40 true w (by kernel_rfl)

end Go.Proofs.Ythepnjbefngooaa.H
