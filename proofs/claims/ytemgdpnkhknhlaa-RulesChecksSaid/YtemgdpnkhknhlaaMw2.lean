/-
  OUR OWN: operations that only look (and values that are reckoned): 'dread', and that the machine's operations come to the same.
-/
import Derived.Test.YtemgdpnkhknhlaaMw1
namespace Go.MW

def aggT (P : Program) (t : TypeId) : Option Bool :=
  match P.underlying t with
  | some (.struct _) | some (.array _ _) => some true
  | some _ => some false
  | none => none

def szT (P : Program) (t : TypeId) : Option Nat := (P.info? t).map (·.size)

/-- A variable's value out of the cells from its place on. -/
def pick1 (agg : Bool) (n : Nat) (cs : List PV) : Option PV :=
  if agg then (if n ≤ cs.length then some (.agg (cs.take n)) else none) else cs.head?

def ofLit : Value → PV
  | .int k n => .int k n
  | .bool b => .bool b
  | .string s => .str s
  | .pointer none => .nilp
  | .slice none 0 0 => .nils
  | .map none => .nilm
  | .nilFunc => .nilf
  | .nilIface => .nili
  | _ => .undef

def ofV : Value → PV
  | .agg cs => .agg (cs.toList.map ofLit)
  | v => ofLit v

def evalO (fr : List PV) : Operand → PV
  | .tmp t => fr.getD t .undef
  | .const v => ofV v
  | .global _ => .undef
  | .func f => .func (.func f) []

theorem ofLit_VR (w : World) (ρ : Rl) (v : Value) : VR w ρ (ofLit v) v := by
  unfold ofLit
  split
  · exact .int _ _
  · exact .bool _
  · exact .str _
  · exact .nilp
  · exact .nils
  · exact .nilm
  · exact .nilf
  · exact .nili
  · exact .undef _

theorem getD_map_lit (cs : List Value) (t : Nat) (h : t < cs.length) : (cs.map ofLit).getD t .undef = ofLit (cs.getD t Go.undef) := by
  simp [List.getD, h]

theorem ofV_VR (w : World) (ρ : Rl) (v : Value) : VR w ρ (ofV v) v := by
  unfold ofV
  split
  · rename_i cs
    refine .agg (by simp) fun t ht => ?_
    have ht' : t < cs.toList.length := by simpa using ht
    rw [getD_map_lit _ _ ht']
    have e : cs.toList.getD t Go.undef = cs.getD t Go.undef := by simp
    rw [e]
    exact ofLit_VR _ _ _
  · exact ofLit_VR _ _ _

theorem evalO_VR {w : World} {ρ : Rl} {fr : List PV} {a : Act} (h : FR w ρ fr a) (x : Operand) : VR w ρ (evalO fr x) (a.eval x) := by
  cases x with
  | tmp t => exact h.slot t
  | const v => exact ofV_VR _ _ v
  | global g => exact .undef _
  | func f => exact .func _ (by simp) (fun t ht => by simp at ht)

theorem add_add (a : Addr) (m n : Nat) : (a.add m).add n = a.add (m + n) := by
  unfold Addr.add
  by_cases hm : m = 0
  · simp [hm]
  · by_cases hn : n = 0
    · simp [hn]
    · simp [hm, hn, Nat.add_assoc]

theorem run_isAgg {P : Program} {t : TypeId} {b : Bool} (h : aggT P t = some b) (w : World) : (isAgg t).run P w = .ok b w := by
  unfold aggT at h
  split at h
  · rename_i hu; simp at h; subst h; simp [isAgg, run_underlying hu]
  · rename_i hu; simp at h; subst h; simp [isAgg, run_underlying hu]
  · rename_i d hd1 hd2 hu
    simp at h; subst h
    simp only [isAgg, Sem.run_bind, run_underlying hu, Result.andThen]
    rfl
  · cases h

theorem run_sizeOf' {P : Program} {t : TypeId} {n : Nat} (h : szT P t = some n) (w : World) : (sizeOf t).run P w = .ok n w := by
  unfold szT at h
  cases hi : P.info? t with
  | none => simp [hi] at h
  | some i =>
    simp [hi] at h
    simp [sizeOf, typeInfo, hi, h]

/-- The cells of a place, told. -/
def CellsAt (w : World) (ρ : Rl) (a : Addr) (cs : List PV) : Prop :=
  ∃ vs : Nat → Value, (∀ t, t < cs.length → w.cell? (a.add t) = some (vs t)) ∧ ∀ t, t < cs.length → VR w ρ (cs.getD t .undef) (vs t)

theorem CellsAt.drop {w : World} {ρ : Rl} {a : Addr} {cs : List PV} (h : CellsAt w ρ a cs) (k : Nat) : CellsAt w ρ (a.add k) (cs.drop k) := by
  obtain ⟨vs, hc, hv⟩ := h
  refine ⟨fun t => vs (k + t), fun t ht => ?_, fun t ht => ?_⟩
  · rw [add_add]; exact hc _ (by simp at ht; omega)
  · have := hv (k + t) (by simp at ht; omega)
    simpa [List.getD, List.getElem?_drop] using this

theorem CellsAt.load {P : Program} {w : World} {ρ : Rl} {a : Addr} {cs : List PV} (h : CellsAt w ρ a cs) {t : TypeId} {b : Bool} {n : Nat} (hb : aggT P t = some b) (hn : szT P t = some n) {v : PV}
    (hp : pick1 b n cs = some v) : ∃ u, (loadVar t a).run P w = .ok u w ∧ VR w ρ v u := by
  obtain ⟨vs, hc, hv⟩ := h
  unfold pick1 at hp
  cases b with
  | true =>
    simp only [if_true] at hp
    split at hp
    · rename_i hle
      simp at hp; subst hp
      refine ⟨.agg ((List.range n).map vs).toArray, ?_, ?_⟩
      · simp only [loadVar, Sem.run_bind, run_isAgg hb, Result.andThen, if_true, run_sizeOf' hn, run_loadCells w a n vs (fun j hj => hc j (by omega))]
        rfl
      · refine .agg (by simp; omega) fun t ht => ?_
        have ht' : t < n := by simp at ht; omega
        have := hv t (by omega)
        simp [ht']
        simpa [List.getD, List.getElem?_take, ht'] using this
    · cases hp
  | false =>
    simp only [Bool.false_eq_true, if_false] at hp
    cases cs with
    | nil => simp at hp
    | cons c r =>
      simp at hp; subst hp
      refine ⟨vs 0, ?_, by simpa using hv 0 (by simp)⟩
      have h0 := hc 0 (by simp)
      rw [Addr.add_zero'] at h0
      simp [loadVar, run_isAgg hb, h0]

theorem cells_of {w : World} {ρ : Rl} {H : List Blk} (hH : HR w ρ H) {r : Nat} {cs : List PV} {tg : Option (TypeId × Bool)} (h : H.getD r .dead = .cells cs tg) {b sh : Nat} (hβ : ρ.β r = some (b, sh)) :
    CellsAt w ρ ⟨b, sh, none⟩ cs := by
  have hr : r < H.length := by
    rcases Nat.lt_or_ge r H.length with h' | h'
    · exact h'
    · simp [List.getD, List.getElem?_eq_none h'] at h
  obtain ⟨b', sh', hβ', hb⟩ := hH.blk r hr (by rw [h]; simp)
  rw [hβ] at hβ'; simp at hβ'; obtain ⟨rfl, rfl⟩ := hβ'
  rw [h] at hb
  obtain ⟨_, c, e, hc, hs, hv, _⟩ := hb
  refine ⟨fun t => c.getD (sh + t) Go.undef, fun t ht => ?_, fun t ht => hv t ht⟩
  have : sh + t < c.size := by omega
  rw [Addr.add_lit]
  simp [World.cell?, hc, this]

theorem rptr_cells {w : World} {ρ : Rl} {cs : List PV} {v : Value} (h : VR w ρ (.rptr cs) v) : ∃ a, v = .pointer (some a) ∧ ρ.S a.block ∧ CellsAt w ρ a cs := by
  cases h with
  | rptr vs hS hc hv => exact ⟨_, rfl, hS, vs, hc, hv⟩

theorem VR.of_cells {w : World} {ρ : Rl} {a : Addr} {cs : List PV} (hS : ρ.S a.block) (h : CellsAt w ρ a cs) : VR w ρ (.rptr cs) (.pointer (some a)) := by
  obtain ⟨vs, hc, hv⟩ := h
  exact .rptr vs hS hc hv

/-- What lies behind a pointer: its cells. -/
def behind (H : List Blk) : PV → Option (List PV)
  | .ptr r off => match H.getD r .dead with
    | .cells cs _ => some (cs.drop off)
    | _ => none
  | .rptr cs => some cs
  | _ => none

theorem behind_cells {w : World} {ρ : Rl} {H : List Blk} (hH : HR w ρ H) {x : PV} {v : Value} (h : VR w ρ x v) {cs : List PV} (hb : behind H x = some cs) :
    ∃ a, v = .pointer (some a) ∧ CellsAt w ρ a cs := by
  cases h with
  | @ptr r b sh off hβ =>
    simp only [behind] at hb
    split at hb
    · rename_i cs' hcs
      simp at hb; subst hb
      refine ⟨_, rfl, ?_⟩
      have := (cells_of hH hcs hβ).drop off
      rwa [Addr.add_lit] at this
    · cases hb
  | rptr vs hS hc hv =>
    simp [behind] at hb; subst hb
    exact ⟨_, rfl, vs, hc, hv⟩
  | _ => simp [behind] at hb

/-- A part of an aggregate. -/
def partOf (P : Program) (t : TypeId) (cs : List PV) (off : Nat) : Option PV :=
  match aggT P t, szT P t with
  | some true, some n => some (.agg ((cs.drop off).take n))
  | some false, _ => cs[off]?
  | _, _ => none

theorem part_snd {P : Program} {w : World} {ρ : Rl} {t : TypeId} {cs : List PV} {vs : Array Value} {off : Nat} (hl : vs.size = cs.length) (hv : ∀ t, t < cs.length → VR w ρ (cs.getD t .undef) (vs.getD t Go.undef)) {x : PV}
    (h : partOf P t cs off = some x) : ∃ u, (part t vs off).run P w = .ok u w ∧ VR w ρ x u := by
  unfold partOf at h
  split at h
  · rename_i n hb hn
    simp at h; subst h
    refine ⟨.agg (vs.extract off (off + n)), by simp [part, run_isAgg hb, run_sizeOf' hn], .agg ?_ fun t ht => ?_⟩
    · simp; omega
    · have ht' : t < n ∧ off + t < cs.length := by simp at ht; omega
      have := hv (off + t) ht'.2
      simp [List.getD, ht'.1]
      have e1 : off + t < vs.size := by omega
      simp [List.getD, e1] at this
      have e2 : (vs.extract off (off + n))[t]? = vs[off + t]? := by
        rw [Array.getElem?_extract]
        rw [if_pos (by omega)]
      rw [e2]
      simpa [e1, ht'.2] using this
  · rename_i hb
    have hlt : off < cs.length := by
      rcases Nat.lt_or_ge off cs.length with h' | h'
      · exact h'
      · simp [List.getElem?_eq_none h'] at h
    have e1 : off < vs.size := by omega
    refine ⟨vs.getD off Go.undef, ?_, ?_⟩
    · simp [part, run_isAgg hb, e1]
    · have := hv off hlt
      simp [List.getD, h] at this
      simpa using this
  · cases h

def dfieldAddr (P : Program) (s : TypeId) (x : PV) (f : Nat) : Option PV :=
  match P.underlying s with
  | some (.struct fs) => match fs[f]? with
    | some fd => match szT P fd.type with
      | some (_ + 1) => match x with
        | .ptr r off => some (.ptr r (off + fd.offset))
        | .rptr cs => some (.rptr (cs.drop fd.offset))
        | _ => none
      | _ => none
    | none => none
  | _ => none

theorem fieldAddr_snd {P : Program} {w : World} {ρ : Rl} {s : TypeId} {x : PV} {f : Nat} {v : Value} (hx : VR w ρ x v) {y : PV} (h : dfieldAddr P s x f = some y) :
    ∃ u, (Instr.fieldAt s v f).run P w = .ok u w ∧ VR w ρ y u := by
  unfold dfieldAddr at h
  split at h
  · rename_i fs hu
    split at h
    · rename_i fd hf
      split at h
      · rename_i n hn
        split at h
        · rename_i r off
          simp at h; subst h
          cases hx with
          | @ptr _ b sh _ hβ =>
            refine ⟨.pointer (some ⟨b, sh + off + fd.offset, none⟩), ?_, ?_⟩
            · simp [Instr.fieldAt, run_underlying hu, hf, Instr.sureAddr, fieldPlace, run_sizeOf' hn, Addr.add_lit]
            · rw [Nat.add_assoc]; exact .ptr _ hβ
        · simp at h; subst h
          obtain ⟨a, rfl, hS, hc⟩ := rptr_cells hx
          refine ⟨.pointer (some (a.add fd.offset)), ?_, ?_⟩
          · simp [Instr.fieldAt, run_underlying hu, hf, Instr.sureAddr, fieldPlace, run_sizeOf' hn]
          · exact VR.of_cells (by rw [add_block]; exact hS) (hc.drop _)
        · cases h
      · cases h
    · cases h
  · cases h

def dfield (P : Program) (t : TypeId) (x : PV) (f : Nat) : Option PV :=
  match P.underlying t with
  | some (.struct fs) => match fs[f]? with
    | some fd => match x with
      | .agg cs => partOf P fd.type cs fd.offset
      | _ => none
    | none => none
  | _ => none

theorem field_snd {P : Program} {w : World} {ρ : Rl} {t : TypeId} {x : PV} {f : Nat} {v : Value} (hx : VR w ρ x v) {y : PV} (h : dfield P t x f = some y) :
    ∃ u, (Instr.field t v f).run P w = .ok u w ∧ VR w ρ y u := by
  unfold dfield at h
  split at h
  · rename_i fs hu
    split at h
    · rename_i fd hf
      split at h
      · cases hx with
        | agg hl hv =>
          obtain ⟨u, hr, hu'⟩ := part_snd (P := P) hl hv h
          exact ⟨u, by simp [Instr.field, run_underlying hu, hf, asAgg, hr], hu'⟩
      · cases h
    · cases h
  · cases h

def dindexAddr (P : Program) (t : TypeId) (x i : PV) : Option PV :=
  match i with
  | .int _ n =>
    if 0 ≤ n then
      match P.underlying t with
      | some (.slice e) => match szT P e with
        | some sz => match x with
          | .row r off len sz' _ => if n < (len : Int) ∧ sz' = sz then some (.ptr r (off + n.toNat * sz)) else none
          | .lst xs _ => if n < (xs.length : Int) ∧ (xs.getD n.toNat []).length = sz then some (.rptr (xs.getD n.toNat [])) else none
          | _ => none
        | none => none
      | some (.array len e) => match szT P e with
        | some sz => if n < (len : Int) then match x with
            | .ptr r off => some (.ptr r (off + n.toNat * sz))
            | .rptr cs => some (.rptr (cs.drop (n.toNat * sz)))
            | _ => none
          else none
        | none => none
      | _ => none
    else none
  | _ => none

theorem elem_slice {P : Program} {t e : TypeId} (h : P.underlying t = some (.slice e)) : P.elem t = e := by simp [Program.elem, h]
theorem elem_array {P : Program} {t e : TypeId} {n : Nat} (h : P.underlying t = some (.array n e)) : P.elem t = e := by simp [Program.elem, h]
theorem len_array {P : Program} {t e : TypeId} {n : Nat} (h : P.underlying t = some (.array n e)) : P.arrayLen t = n := by simp [Program.arrayLen, h]

theorem indexAddr_snd {P : Program} {w : World} {ρ : Rl} {t : TypeId} {x i : PV} {v j : Value} (hx : VR w ρ x v) (hi : VR w ρ i j) {y : PV} (h : dindexAddr P t x i = some y) :
    ∃ u, (Instr.indexAt t v j).run P w = .ok u w ∧ VR w ρ y u := by
  unfold dindexAddr at h
  split at h
  · rename_i k n
    cases hi
    split at h
    · rename_i h0
      split at h
      · rename_i e hu
        split at h
        · rename_i sz hsz
          split at h
          · rename_i r off len sz' tight
            split at h
            · rename_i hc
              obtain ⟨hlt, rfl⟩ := hc
              simp at h; subst h
              cases hx with
              | @row r b sh off len sz tight cap hβ hcap ht hroom =>
                refine ⟨.pointer (some ⟨b, sh + (off + n.toNat * sz'), none⟩), ?_, .ptr _ hβ⟩
                rw [run_indexAt_slice w t _ len cap k n (by rw [elem_slice hu]; exact hu), if_pos ⟨h0, hlt⟩, elem_slice hu, run_sizeOf' hsz]
                simp [Result.andThen, Addr.add_lit, Nat.add_assoc]
            · cases h
          · rename_i xs tight
            split at h
            · rename_i hc
              obtain ⟨hlt, hl⟩ := hc
              obtain rfl := Option.some.inj h
              cases hx with
              | lst0 => simp at hlt; omega
              | @lst xs tight a cap sz0 vs hS hcap ht hsz' hcell hv =>
                have hlt' : n.toNat < xs.length := by omega
                have e : sz0 = sz := by rw [← hl]; exact (hsz' _ hlt').symm
                subst e
                have hne : xs ≠ [] := by rintro rfl; simp at hlt'
                refine ⟨.pointer (some (a.add (n.toNat * sz0))), ?_, ?_⟩
                · rw [run_indexAt_slice w t a xs.length cap k n (by rw [elem_slice hu]; exact hu), if_pos ⟨h0, hlt⟩, elem_slice hu, run_sizeOf' hsz]
                  simp [Result.andThen]
                · have hb : n.toNat * sz0 + sz0 ≤ xs.length * sz0 := by
                    have : (n.toNat + 1) * sz0 ≤ xs.length * sz0 := Nat.mul_le_mul_right _ hlt'
                    rwa [Nat.add_mul, Nat.one_mul] at this
                  refine .rptr (fun t => vs (n.toNat * sz0 + t)) (by rw [add_block]; exact hS hne) (fun t ht' => ?_) (fun t ht' => ?_)
                  · rw [hl] at ht'; rw [add_add]; exact hcell _ (by omega)
                  · rw [hl] at ht'; exact hv n.toNat hlt' t ht'
            · cases h
          · cases h
        · cases h
      · rename_i len e hu
        split at h
        · rename_i sz hsz
          split at h
          · rename_i hlt
            split at h
            · rename_i r off
              simp at h; subst h
              cases hx with
              | @ptr _ b sh _ hβ =>
                refine ⟨.pointer (some ⟨b, sh + (off + n.toNat * sz), none⟩), ?_, .ptr _ hβ⟩
                rw [run_indexAt_array w t _ k n (by rw [elem_array hu, len_array hu]; exact hu), len_array hu, if_pos ⟨h0, hlt⟩, elem_array hu, run_sizeOf' hsz]
                simp [Result.andThen, Addr.add_lit, Nat.add_assoc]
            · simp at h; subst h
              obtain ⟨a, rfl, hS, hc⟩ := rptr_cells hx
              refine ⟨.pointer (some (a.add (n.toNat * sz))), ?_, VR.of_cells (by rw [add_block]; exact hS) (hc.drop _)⟩
              rw [run_indexAt_array w t _ k n (by rw [elem_array hu, len_array hu]; exact hu), len_array hu, if_pos ⟨h0, hlt⟩, elem_array hu, run_sizeOf' hsz]
              simp [Result.andThen]
            · cases h
          · cases h
        · cases h
      · cases h
    · cases h
  · cases h

end Go.MW
