/-
  The table's loops (the code). No statement stands here.
-/
import Derived.Test.YthoojnjcdllgdaaGreatDoorTzg
set_option linter.all false
namespace Go.Proofs.YthoojnjcdllgdaaGreatDoor
open Go Rf TallyP
set_option maxRecDepth 100000
set_option maxHeartbeats 4000000

def nB : Nat → C → C
  | 0, c => c
  | n + 1, c => nB n (sB c)
theorem num_cons {n : Int} {l : List Int} (h : i64 n) (hl : ∀ x ∈ l, i64 x) : ∀ x ∈ n :: l, i64 x := fun x hx => by
  rcases List.mem_cons.1 hx with rfl | hx
  · exact h
  · exact hl x hx
theorem num_nil : ∀ x ∈ ([] : List Int), i64 x := fun x hx => by cases hx
theorem krun_bsl3n {e : List V} {s : St} {t : Nat} {z : V} {n0 n1 n2 : Int} {x0 x1 x2 : Arg} (h0 : x0.ev e = .i .i64 n0) (h1 : x1.ev e = .i .i64 n1) (h2 : x2.ev e = .i .i64 n2) : KRun gt1 Tryz.prog e s (.a (.bsl t true false 3 1 [z] [(0, 1, x0), (1, 1, x1), (2, 1, x2)])) (.pu 1 [.i .i64 n0, .i .i64 n1, .i .i64 n2] (.x 3)) s := by
  show aop e s (.bsl t true false 3 1 [z] [(0, 1, x0), (1, 1, x1), (2, 1, x2)]) = _
  simp [aop, fillp, h0, h1, h2, setAt, chunks, V.isVal, V.cells, mkEl]
theorem kbsl3 {e : List V} {s : St} {d : Option Nat} {r : List I} {next : List V → St → Prop} {t : Nat} {z : V} {n0 n1 n2 : Int} {x0 x1 x2 : Arg} (h : fSetD e d (.pu 1 [.i .i64 n0, .i .i64 n1, .i .i64 n2] (.x 3)) fun e => HO gt1 Tryz.prog r e s next) (h0 : x0.ev e = .i .i64 n0 := by (conv => lhs; whnf); try exact rfl) (h1 : x1.ev e = .i .i64 n1 := by (conv => lhs; whnf); try exact rfl) (h2 : x2.ev e = .i .i64 n2 := by (conv => lhs; whnf); try exact rfl) :
    HO gt1 Tryz.prog ({ d := d, g := none, k := .a (.bsl t true false 3 1 [z] [(0, 1, x0), (1, 1, x1), (2, 1, x2)]) } :: r) e s next := HO.opA (krun_bsl3n h0 h1 h2) h
theorem kdbsl3 {hist : List St} {b : Nat} {e : List V} {s : St} {d : Option Nat} {r : List (Nat × I)} {next : List V → St → Prop} {t : Nat} {z : V} {n0 n1 n2 : Int} {x0 x1 x2 : Arg} (h : fSetD e d (.pu 1 [.i .i64 n0, .i .i64 n1, .i .i64 n2] (.x 3)) fun e => HD gt1 Tryz.prog hist r e s next) (h0 : x0.ev e = .i .i64 n0 := by (conv => lhs; whnf); try exact rfl) (h1 : x1.ev e = .i .i64 n1 := by (conv => lhs; whnf); try exact rfl) (h2 : x2.ev e = .i .i64 n2 := by (conv => lhs; whnf); try exact rfl) :
    HD gt1 Tryz.prog hist ((b, { d := d, g := none, k := .a (.bsl t true false 3 1 [z] [(0, 1, x0), (1, 1, x1), (2, 1, x2)]) }) :: r) e s next := HD.opA0 (krun_bsl3n h0 h1 h2) (Nat.ne_of_beq_eq_false rfl) (fun _ _ => krun_bsl3n h0 h1 h2) h
theorem krun_bsl4n {e : List V} {s : St} {t : Nat} {z : V} {n0 n1 n2 n3 : Int} {x0 x1 x2 x3 : Arg} (h0 : x0.ev e = .i .i64 n0) (h1 : x1.ev e = .i .i64 n1) (h2 : x2.ev e = .i .i64 n2) (h3 : x3.ev e = .i .i64 n3) : KRun gt1 Tryz.prog e s (.a (.bsl t true false 4 1 [z] [(0, 1, x0), (1, 1, x1), (2, 1, x2), (3, 1, x3)])) (.pu 1 [.i .i64 n0, .i .i64 n1, .i .i64 n2, .i .i64 n3] (.x 4)) s := by
  show aop e s (.bsl t true false 4 1 [z] [(0, 1, x0), (1, 1, x1), (2, 1, x2), (3, 1, x3)]) = _
  simp [aop, fillp, h0, h1, h2, h3, setAt, chunks, V.isVal, V.cells, mkEl]
theorem kbsl4 {e : List V} {s : St} {d : Option Nat} {r : List I} {next : List V → St → Prop} {t : Nat} {z : V} {n0 n1 n2 n3 : Int} {x0 x1 x2 x3 : Arg} (h : fSetD e d (.pu 1 [.i .i64 n0, .i .i64 n1, .i .i64 n2, .i .i64 n3] (.x 4)) fun e => HO gt1 Tryz.prog r e s next) (h0 : x0.ev e = .i .i64 n0 := by (conv => lhs; whnf); try exact rfl) (h1 : x1.ev e = .i .i64 n1 := by (conv => lhs; whnf); try exact rfl) (h2 : x2.ev e = .i .i64 n2 := by (conv => lhs; whnf); try exact rfl) (h3 : x3.ev e = .i .i64 n3 := by (conv => lhs; whnf); try exact rfl) :
    HO gt1 Tryz.prog ({ d := d, g := none, k := .a (.bsl t true false 4 1 [z] [(0, 1, x0), (1, 1, x1), (2, 1, x2), (3, 1, x3)]) } :: r) e s next := HO.opA (krun_bsl4n h0 h1 h2 h3) h
theorem kdbsl4 {hist : List St} {b : Nat} {e : List V} {s : St} {d : Option Nat} {r : List (Nat × I)} {next : List V → St → Prop} {t : Nat} {z : V} {n0 n1 n2 n3 : Int} {x0 x1 x2 x3 : Arg} (h : fSetD e d (.pu 1 [.i .i64 n0, .i .i64 n1, .i .i64 n2, .i .i64 n3] (.x 4)) fun e => HD gt1 Tryz.prog hist r e s next) (h0 : x0.ev e = .i .i64 n0 := by (conv => lhs; whnf); try exact rfl) (h1 : x1.ev e = .i .i64 n1 := by (conv => lhs; whnf); try exact rfl) (h2 : x2.ev e = .i .i64 n2 := by (conv => lhs; whnf); try exact rfl) (h3 : x3.ev e = .i .i64 n3 := by (conv => lhs; whnf); try exact rfl) :
    HD gt1 Tryz.prog hist ((b, { d := d, g := none, k := .a (.bsl t true false 4 1 [z] [(0, 1, x0), (1, 1, x1), (2, 1, x2), (3, 1, x3)]) }) :: r) e s next := HD.opA0 (krun_bsl4n h0 h1 h2 h3) (Nat.ne_of_beq_eq_false rfl) (fun _ _ => krun_bsl4n h0 h1 h2 h3) h
theorem krun_bsl5n {e : List V} {s : St} {t : Nat} {z : V} {n0 n1 n2 n3 n4 : Int} {x0 x1 x2 x3 x4 : Arg} (h0 : x0.ev e = .i .i64 n0) (h1 : x1.ev e = .i .i64 n1) (h2 : x2.ev e = .i .i64 n2) (h3 : x3.ev e = .i .i64 n3) (h4 : x4.ev e = .i .i64 n4) : KRun gt1 Tryz.prog e s (.a (.bsl t true false 5 1 [z] [(0, 1, x0), (1, 1, x1), (2, 1, x2), (3, 1, x3), (4, 1, x4)])) (.pu 1 [.i .i64 n0, .i .i64 n1, .i .i64 n2, .i .i64 n3, .i .i64 n4] (.x 5)) s := by
  show aop e s (.bsl t true false 5 1 [z] [(0, 1, x0), (1, 1, x1), (2, 1, x2), (3, 1, x3), (4, 1, x4)]) = _
  simp [aop, fillp, h0, h1, h2, h3, h4, setAt, chunks, V.isVal, V.cells, mkEl]
theorem kbsl5 {e : List V} {s : St} {d : Option Nat} {r : List I} {next : List V → St → Prop} {t : Nat} {z : V} {n0 n1 n2 n3 n4 : Int} {x0 x1 x2 x3 x4 : Arg} (h : fSetD e d (.pu 1 [.i .i64 n0, .i .i64 n1, .i .i64 n2, .i .i64 n3, .i .i64 n4] (.x 5)) fun e => HO gt1 Tryz.prog r e s next) (h0 : x0.ev e = .i .i64 n0 := by (conv => lhs; whnf); try exact rfl) (h1 : x1.ev e = .i .i64 n1 := by (conv => lhs; whnf); try exact rfl) (h2 : x2.ev e = .i .i64 n2 := by (conv => lhs; whnf); try exact rfl) (h3 : x3.ev e = .i .i64 n3 := by (conv => lhs; whnf); try exact rfl) (h4 : x4.ev e = .i .i64 n4 := by (conv => lhs; whnf); try exact rfl) :
    HO gt1 Tryz.prog ({ d := d, g := none, k := .a (.bsl t true false 5 1 [z] [(0, 1, x0), (1, 1, x1), (2, 1, x2), (3, 1, x3), (4, 1, x4)]) } :: r) e s next := HO.opA (krun_bsl5n h0 h1 h2 h3 h4) h
theorem kdbsl5 {hist : List St} {b : Nat} {e : List V} {s : St} {d : Option Nat} {r : List (Nat × I)} {next : List V → St → Prop} {t : Nat} {z : V} {n0 n1 n2 n3 n4 : Int} {x0 x1 x2 x3 x4 : Arg} (h : fSetD e d (.pu 1 [.i .i64 n0, .i .i64 n1, .i .i64 n2, .i .i64 n3, .i .i64 n4] (.x 5)) fun e => HD gt1 Tryz.prog hist r e s next) (h0 : x0.ev e = .i .i64 n0 := by (conv => lhs; whnf); try exact rfl) (h1 : x1.ev e = .i .i64 n1 := by (conv => lhs; whnf); try exact rfl) (h2 : x2.ev e = .i .i64 n2 := by (conv => lhs; whnf); try exact rfl) (h3 : x3.ev e = .i .i64 n3 := by (conv => lhs; whnf); try exact rfl) (h4 : x4.ev e = .i .i64 n4 := by (conv => lhs; whnf); try exact rfl) :
    HD gt1 Tryz.prog hist ((b, { d := d, g := none, k := .a (.bsl t true false 5 1 [z] [(0, 1, x0), (1, 1, x1), (2, 1, x2), (3, 1, x3), (4, 1, x4)]) }) :: r) e s next := HD.opA0 (krun_bsl5n h0 h1 h2 h3 h4) (Nat.ne_of_beq_eq_false rfl) (fun _ _ => krun_bsl5n h0 h1 h2 h3 h4) h
def nuP (x : RwP) : List Int := [x.1, x.2.1, x.2.2.1, x.2.2.2.1, x.2.2.2.2]
def lnP (x : RwP) : List UInt8 := wordsV [112, 114, 111, 99] (nuP x)
theorem nuP_ok {x : RwP} (h : i64 x.1 ∧ (i64 x.2.1 ∧ i64 x.2.2.1 ∧ i64 x.2.2.2.1 ∧ i64 x.2.2.2.2)) : ∀ n ∈ nuP x, i64 n := by
  obtain ⟨h0, h1, h2, h3, h4⟩ := h
  exact num_cons h0 (num_cons h1 (num_cons h2 (num_cons h3 (num_cons h4 (num_nil)))))
def nuK (x : RwK) : List Int := [x.1.1, x.1.2, x.2.1, x.2.2]
def lnK (x : RwK) : List UInt8 := wordsV [107, 105, 110, 100] (nuK x)
theorem nuK_ok {x : RwK} (h : (i64 x.1.1 ∧ i64 x.1.2) ∧ (i64 x.2.1 ∧ i64 x.2.2)) : ∀ n ∈ nuK x, i64 n := by
  obtain ⟨⟨h0, h1⟩, h2, h3⟩ := h
  exact num_cons h0 (num_cons h1 (num_cons h2 (num_cons h3 (num_nil))))
def nuS (x : Rw2) : List Int := [x.1, x.2.1, x.2.2]
def lnS (x : Rw2) : List UInt8 := wordsV [115, 112, 97, 110] (nuS x)
theorem nuS_ok {x : Rw2} (h : i64 x.1 ∧ (i64 x.2.1 ∧ i64 x.2.2)) : ∀ n ∈ nuS x, i64 n := by
  obtain ⟨h0, h1, h2⟩ := h
  exact num_cons h0 (num_cons h1 (num_cons h2 (num_nil)))
def nuF (x : RwF) : List Int := [x.1.1, x.1.2, x.2]
def lnF (x : RwF) : List UInt8 := wordsV [102, 108, 111, 119] (nuF x)
theorem nuF_ok {x : RwF} (h : (i64 x.1.1 ∧ i64 x.1.2) ∧ i64 x.2) : ∀ n ∈ nuF x, i64 n := by
  obtain ⟨⟨h0, h1⟩, h2⟩ := h
  exact num_cons h0 (num_cons h1 (num_cons h2 (num_nil)))
def EC6 (mv sp av : V) : List V := (mv :: .bad :: .bad :: .bad :: .bad :: .bad :: sp :: .bad :: .bad :: av :: List.replicate 164 .bad)
def ECP (mv sp av : V) (l : List RwP) (i : Nat) : List V := (mv :: .bad :: .bad :: .bad :: .bad :: .bad :: sp :: .bad :: .bad :: av :: .bad :: .bad :: .bad :: .bad :: .bad :: .bad :: .bad :: .bad :: .bad :: .bad :: .bad :: .bad :: .bad :: .bad :: .bad :: .bad :: .bad :: .bad :: .bad :: .bad :: .bad :: .bad :: .bad :: .bad :: .bad :: .bad :: .bad :: .bad :: .bad :: .bad :: .bad :: .bad :: .bad :: .bad :: .bad :: .bad :: .bad :: .bad :: .bad :: .bad :: .bad :: .bad :: .bad :: .bad :: .bad :: .bad :: .bad :: .bad :: .bad :: .bad :: .bad :: .bad :: .bad :: .bad :: .pu 5 (l.map fun x => .ag (csP x)) .u :: .i .i64 (l.length : Nat) :: .i .i64 (i : Nat) :: List.replicate 107 .bad)
theorem clP {s z : St} {Q : XM → List V → St → Prop} (ms : List Mv) (sp av : V) (tk : Option Nat) (xs : List (List UInt8)) (l : List RwP) (hl : l.length ≤ 100000) (hxs : xs.length ≤ 600000) (hok : ∀ x ∈ l, i64 x.1 ∧ (i64 x.2.1 ∧ i64 x.2.2.1 ∧ i64 x.2.2.2.1 ∧ i64 x.2.2.2.2)) (hms : ms.length ≤ 1000) (hn : ∀ m ∈ ms, Nm s0.L m.v) (hw : ∀ m ∈ ms, m.wf) (hl0 : refP (evs ms) = l) (K : Kn s z [.ac 1 av (xs.map V.s) tk])
    (hQ : ∀ e z' av' tk', fg [0, 6, 9] e = EC6 (.pu 47 (ms.map Mv.v) .u) sp av' → Kn s z' [.ac 1 av' ((xs ++ l.map lnP).map V.s) tk'] → Q .nrm e z') :
    HM gt1 Tryz.prog s (sA (nB 5 f6.body)) (EC6 (.pu 47 (ms.map Mv.v) .u) sp av) z Q := by
  have hll : (l.map fun x => V.ag (csP x)).length = l.length := List.length_map ..
  refine kgo ?_; (repeat (first | intro (X:Nat) | intro (z:St) | intro (av:V) | intro (tk:Option Nat) | (intro (K1:Kn _ _ _); (try clear K); rename Kn _ _ _ => K))); conv => whnf
  refine ⟨_, _, up0 (talPw_den ms hms hn hw _ K.x), ?_⟩
  rw [hl0]
  conv => whnf
  refine kgo ?_; (repeat (first | intro (X:Nat) | intro (z:St) | intro (av:V) | intro (tk:Option Nat) | (intro (K1:Kn _ _ _); (try clear K); rename Kn _ _ _ => K))); conv => whnf
  rw [hll]
  refine HM.loop gnm1 fun hg => ⟨fun n e z' => ∃ (i : Nat) (av' : V) (tk' : Option Nat), i ≤ l.length ∧ n = l.length - i ∧ e = ECP (.pu 47 (ms.map Mv.v) .u) sp av' l i ∧ Kn s z' [.ac 1 av' ((xs ++ (l.take i).map lnP).map V.s) tk'],
    ⟨l.length, fg [0, 6, 9, 64, 65, 66] _, _, WkM.fg hg, 0, av, tk, Nat.zero_le _, rfl, rfl, K.cast (by rw [List.take_zero, List.map_nil, List.append_nil])⟩, ?_⟩
  clear K
  rintro n e z1 ⟨i, av', tk', hi, rfl, rfl, K⟩
  conv => whnf
  refine kgo ?_; (repeat (first | intro (X:Nat) | intro (z:St) | intro (av:V) | intro (tk:Option Nat) | (intro (K1:Kn _ _ _); (try clear K); rename Kn _ _ _ => K))); conv => whnf
  refine brL ⟨fun hlt => ?_, fun hge => ?_⟩ <;> conv => whnf
  · have hx : l[i]? = some l[i] := List.getElem?_eq_getElem hlt
    have hxo := hok _ (List.getElem_mem hlt)
    generalize l[i] = x at hx hxo
    have hmi : (l.map fun x => V.ag (csP x))[((i : Nat) : Int).toNat]? = some (.ag (csP x)) := by simp [hx]
    have hal : ((xs ++ (l.take i).map lnP).map V.s).length ≤ 700000 := by simp; omega
    refine kgo ?_; (repeat (first | intro (X:Nat) | intro (z:St) | intro (av:V) | intro (tk:Option Nat) | (intro (K1:Kn _ _ _); (try clear K); rename Kn _ _ _ => K))); conv => whnf
    refine kbsl5 ?_
    conv => whnf
    refine kgo ?_; (repeat (first | intro (X:Nat) | intro (z:St) | intro (av:V) | intro (tk:Option Nat) | (intro (K1:Kn _ _ _); (try clear K); rename Kn _ _ _ => K))); conv => whnf
    refine ⟨_, _, words11_den (.x 5) [112, 114, 111, 99] (nuP x) (by decide) (by simp [nuP]) (nuP_ok hxo) _ K.x, ?_⟩
    conv => whnf
    refine kgo ?_; (repeat (first | intro (X:Nat) | intro (z:St) | intro (av:V) | intro (tk:Option Nat) | (intro (K1:Kn _ _ _); (try clear K); rename Kn _ _ _ => K))); conv => whnf
    intro hg'
    exact ⟨l.length - (i + 1), fg [0, 6, 9, 64, 65, 66] _, _, by omega, WkM.fg hg', i + 1, av, tk, hlt, rfl, rfl, (K.drop0 rfl).cast (by rw [List.take_add_one, hx]; simp [lnP])⟩
  · rw [List.take_of_length_le hge] at K
    refine kgo ?_; (repeat (first | intro (X:Nat) | intro (z:St) | intro (av:V) | intro (tk:Option Nat) | (intro (K1:Kn _ _ _); (try clear K); rename Kn _ _ _ => K))); conv => whnf
    exact hQ _ _ _ _ rfl K
def ECK (mv sp av : V) (l : List RwK) (i : Nat) : List V := (mv :: .bad :: .bad :: .bad :: .bad :: .bad :: sp :: .bad :: .bad :: av :: .bad :: .bad :: .bad :: .bad :: .bad :: .bad :: .bad :: .bad :: .bad :: .bad :: .bad :: .bad :: .bad :: .bad :: .bad :: .bad :: .bad :: .bad :: .bad :: .bad :: .bad :: .bad :: .bad :: .bad :: .bad :: .bad :: .bad :: .bad :: .bad :: .bad :: .bad :: .bad :: .bad :: .bad :: .bad :: .bad :: .bad :: .bad :: .bad :: .bad :: .bad :: .bad :: .bad :: .bad :: .bad :: .bad :: .bad :: .bad :: .bad :: .bad :: .bad :: .bad :: .bad :: .bad :: .bad :: .bad :: .bad :: .bad :: .bad :: .bad :: .bad :: .bad :: .bad :: .bad :: .bad :: .bad :: .bad :: .bad :: .bad :: .bad :: .bad :: .bad :: .bad :: .bad :: .bad :: .bad :: .bad :: .pu 4 (l.map fun x => .ag (csK x)) .u :: .i .i64 (l.length : Nat) :: .i .i64 (i : Nat) :: List.replicate 84 .bad)
theorem clK {s z : St} {Q : XM → List V → St → Prop} (ms : List Mv) (sp av : V) (tk : Option Nat) (xs : List (List UInt8)) (l : List RwK) (hl : l.length ≤ 100000) (hxs : xs.length ≤ 600000) (hok : ∀ x ∈ l, (i64 x.1.1 ∧ i64 x.1.2) ∧ (i64 x.2.1 ∧ i64 x.2.2)) (hms : ms.length ≤ 1000) (hn : ∀ m ∈ ms, Nm s0.L m.v) (hw : ∀ m ∈ ms, m.wf) (hl0 : refK (evs ms) = l) (K : Kn s z [.ac 1 av (xs.map V.s) tk])
    (hQ : ∀ e z' av' tk', fg [0, 6, 9] e = EC6 (.pu 47 (ms.map Mv.v) .u) sp av' → Kn s z' [.ac 1 av' ((xs ++ l.map lnK).map V.s) tk'] → Q .nrm e z') :
    HM gt1 Tryz.prog s (sA (nB 6 f6.body)) (EC6 (.pu 47 (ms.map Mv.v) .u) sp av) z Q := by
  have hll : (l.map fun x => V.ag (csK x)).length = l.length := List.length_map ..
  refine kgo ?_; (repeat (first | intro (X:Nat) | intro (z:St) | intro (av:V) | intro (tk:Option Nat) | (intro (K1:Kn _ _ _); (try clear K); rename Kn _ _ _ => K))); conv => whnf
  refine ⟨_, _, up0 (talKw_den ms hms hn hw _ K.x), ?_⟩
  rw [hl0]
  conv => whnf
  refine kgo ?_; (repeat (first | intro (X:Nat) | intro (z:St) | intro (av:V) | intro (tk:Option Nat) | (intro (K1:Kn _ _ _); (try clear K); rename Kn _ _ _ => K))); conv => whnf
  rw [hll]
  refine HM.loop gnm1 fun hg => ⟨fun n e z' => ∃ (i : Nat) (av' : V) (tk' : Option Nat), i ≤ l.length ∧ n = l.length - i ∧ e = ECK (.pu 47 (ms.map Mv.v) .u) sp av' l i ∧ Kn s z' [.ac 1 av' ((xs ++ (l.take i).map lnK).map V.s) tk'],
    ⟨l.length, fg [0, 6, 9, 87, 88, 89] _, _, WkM.fg hg, 0, av, tk, Nat.zero_le _, rfl, rfl, K.cast (by rw [List.take_zero, List.map_nil, List.append_nil])⟩, ?_⟩
  clear K
  rintro n e z1 ⟨i, av', tk', hi, rfl, rfl, K⟩
  conv => whnf
  refine kgo ?_; (repeat (first | intro (X:Nat) | intro (z:St) | intro (av:V) | intro (tk:Option Nat) | (intro (K1:Kn _ _ _); (try clear K); rename Kn _ _ _ => K))); conv => whnf
  refine brL ⟨fun hlt => ?_, fun hge => ?_⟩ <;> conv => whnf
  · have hx : l[i]? = some l[i] := List.getElem?_eq_getElem hlt
    have hxo := hok _ (List.getElem_mem hlt)
    generalize l[i] = x at hx hxo
    have hmi : (l.map fun x => V.ag (csK x))[((i : Nat) : Int).toNat]? = some (.ag (csK x)) := by simp [hx]
    have hal : ((xs ++ (l.take i).map lnK).map V.s).length ≤ 700000 := by simp; omega
    refine kgo ?_; (repeat (first | intro (X:Nat) | intro (z:St) | intro (av:V) | intro (tk:Option Nat) | (intro (K1:Kn _ _ _); (try clear K); rename Kn _ _ _ => K))); conv => whnf
    refine kbsl4 ?_
    conv => whnf
    refine kgo ?_; (repeat (first | intro (X:Nat) | intro (z:St) | intro (av:V) | intro (tk:Option Nat) | (intro (K1:Kn _ _ _); (try clear K); rename Kn _ _ _ => K))); conv => whnf
    refine ⟨_, _, words11_den (.x 4) [107, 105, 110, 100] (nuK x) (by decide) (by simp [nuK]) (nuK_ok hxo) _ K.x, ?_⟩
    conv => whnf
    refine kgo ?_; (repeat (first | intro (X:Nat) | intro (z:St) | intro (av:V) | intro (tk:Option Nat) | (intro (K1:Kn _ _ _); (try clear K); rename Kn _ _ _ => K))); conv => whnf
    intro hg'
    exact ⟨l.length - (i + 1), fg [0, 6, 9, 87, 88, 89] _, _, by omega, WkM.fg hg', i + 1, av, tk, hlt, rfl, rfl, (K.drop0 rfl).cast (by rw [List.take_add_one, hx]; simp [lnK])⟩
  · rw [List.take_of_length_le hge] at K
    refine kgo ?_; (repeat (first | intro (X:Nat) | intro (z:St) | intro (av:V) | intro (tk:Option Nat) | (intro (K1:Kn _ _ _); (try clear K); rename Kn _ _ _ => K))); conv => whnf
    exact hQ _ _ _ _ rfl K
def ECS (mv sp av : V) (l : List Rw2) (i : Nat) : List V := (mv :: .bad :: .bad :: .bad :: .bad :: .bad :: sp :: .bad :: .bad :: av :: .bad :: .bad :: .bad :: .bad :: .bad :: .bad :: .bad :: .bad :: .bad :: .bad :: .bad :: .bad :: .bad :: .bad :: .bad :: .bad :: .bad :: .bad :: .bad :: .bad :: .bad :: .bad :: .bad :: .bad :: .bad :: .bad :: .bad :: .bad :: .bad :: .bad :: .bad :: .bad :: .bad :: .bad :: .bad :: .bad :: .bad :: .bad :: .bad :: .bad :: .bad :: .bad :: .bad :: .bad :: .bad :: .bad :: .bad :: .bad :: .bad :: .bad :: .bad :: .bad :: .bad :: .bad :: .bad :: .bad :: .bad :: .bad :: .bad :: .bad :: .bad :: .bad :: .bad :: .bad :: .bad :: .bad :: .bad :: .bad :: .bad :: .bad :: .bad :: .bad :: .bad :: .bad :: .bad :: .bad :: .bad :: .bad :: .bad :: .bad :: .bad :: .bad :: .bad :: .bad :: .bad :: .bad :: .bad :: .bad :: .bad :: .bad :: .bad :: .bad :: .bad :: .bad :: .bad :: .bad :: .bad :: .pu 3 (l.map fun x => .ag (c3 x)) .u :: .i .i64 (l.length : Nat) :: .i .i64 (i : Nat) :: List.replicate 64 .bad)
theorem clS {s z : St} {Q : XM → List V → St → Prop} (ms : List Mv) (av : V) (tk : Option Nat) (xs : List (List UInt8)) (l : List Rw2) (hl : l.length ≤ 100000) (hxs : xs.length ≤ 600000) (hok : ∀ x ∈ l, i64 x.1 ∧ (i64 x.2.1 ∧ i64 x.2.2)) (K : Kn s z [.ac 1 av (xs.map V.s) tk])
    (hQ : ∀ e z' av' tk', fg [0, 6, 9] e = EC6 (.pu 47 (ms.map Mv.v) .u) (.pu 3 (l.map fun x => .ag (c3 x)) .u) av' → Kn s z' [.ac 1 av' ((xs ++ l.map lnS).map V.s) tk'] → Q .nrm e z') :
    HM gt1 Tryz.prog s (sA (nB 7 f6.body)) (EC6 (.pu 47 (ms.map Mv.v) .u) (.pu 3 (l.map fun x => .ag (c3 x)) .u) av) z Q := by
  have hll : (l.map fun x => V.ag (c3 x)).length = l.length := List.length_map ..
  refine kgo ?_; (repeat (first | intro (X:Nat) | intro (z:St) | intro (av:V) | intro (tk:Option Nat) | (intro (K1:Kn _ _ _); (try clear K); rename Kn _ _ _ => K))); conv => whnf
  rw [hll]
  refine HM.loop gnm1 fun hg => ⟨fun n e z' => ∃ (i : Nat) (av' : V) (tk' : Option Nat), i ≤ l.length ∧ n = l.length - i ∧ e = ECS (.pu 47 (ms.map Mv.v) .u) (.pu 3 (l.map fun x => .ag (c3 x)) .u) av' l i ∧ Kn s z' [.ac 1 av' ((xs ++ (l.take i).map lnS).map V.s) tk'],
    ⟨l.length, fg [0, 6, 9, 107, 108, 109] _, _, WkM.fg hg, 0, av, tk, Nat.zero_le _, rfl, rfl, K.cast (by rw [List.take_zero, List.map_nil, List.append_nil])⟩, ?_⟩
  clear K
  rintro n e z1 ⟨i, av', tk', hi, rfl, rfl, K⟩
  conv => whnf
  refine kgo ?_; (repeat (first | intro (X:Nat) | intro (z:St) | intro (av:V) | intro (tk:Option Nat) | (intro (K1:Kn _ _ _); (try clear K); rename Kn _ _ _ => K))); conv => whnf
  refine brL ⟨fun hlt => ?_, fun hge => ?_⟩ <;> conv => whnf
  · have hx : l[i]? = some l[i] := List.getElem?_eq_getElem hlt
    have hxo := hok _ (List.getElem_mem hlt)
    generalize l[i] = x at hx hxo
    have hmi : (l.map fun x => V.ag (c3 x))[((i : Nat) : Int).toNat]? = some (.ag (c3 x)) := by simp [hx]
    have hal : ((xs ++ (l.take i).map lnS).map V.s).length ≤ 700000 := by simp; omega
    refine kgo ?_; (repeat (first | intro (X:Nat) | intro (z:St) | intro (av:V) | intro (tk:Option Nat) | (intro (K1:Kn _ _ _); (try clear K); rename Kn _ _ _ => K))); conv => whnf
    refine kbsl3 ?_
    conv => whnf
    refine kgo ?_; (repeat (first | intro (X:Nat) | intro (z:St) | intro (av:V) | intro (tk:Option Nat) | (intro (K1:Kn _ _ _); (try clear K); rename Kn _ _ _ => K))); conv => whnf
    refine ⟨_, _, words11_den (.x 3) [115, 112, 97, 110] (nuS x) (by decide) (by simp [nuS]) (nuS_ok hxo) _ K.x, ?_⟩
    conv => whnf
    refine kgo ?_; (repeat (first | intro (X:Nat) | intro (z:St) | intro (av:V) | intro (tk:Option Nat) | (intro (K1:Kn _ _ _); (try clear K); rename Kn _ _ _ => K))); conv => whnf
    intro hg'
    exact ⟨l.length - (i + 1), fg [0, 6, 9, 107, 108, 109] _, _, by omega, WkM.fg hg', i + 1, av, tk, hlt, rfl, rfl, (K.drop0 rfl).cast (by rw [List.take_add_one, hx]; simp [lnS])⟩
  · rw [List.take_of_length_le hge] at K
    refine kgo ?_; (repeat (first | intro (X:Nat) | intro (z:St) | intro (av:V) | intro (tk:Option Nat) | (intro (K1:Kn _ _ _); (try clear K); rename Kn _ _ _ => K))); conv => whnf
    exact hQ _ _ _ _ rfl K
def ECF (mv sp av : V) (l : List RwF) (i : Nat) : List V := (mv :: .bad :: .bad :: .bad :: .bad :: .bad :: sp :: .bad :: .bad :: av :: .bad :: .bad :: .bad :: .bad :: .bad :: .bad :: .bad :: .bad :: .bad :: .bad :: .bad :: .bad :: .bad :: .bad :: .bad :: .bad :: .bad :: .bad :: .bad :: .bad :: .bad :: .bad :: .bad :: .bad :: .bad :: .bad :: .bad :: .bad :: .bad :: .bad :: .bad :: .bad :: .bad :: .bad :: .bad :: .bad :: .bad :: .bad :: .bad :: .bad :: .bad :: .bad :: .bad :: .bad :: .bad :: .bad :: .bad :: .bad :: .bad :: .bad :: .bad :: .bad :: .bad :: .bad :: .bad :: .bad :: .bad :: .bad :: .bad :: .bad :: .bad :: .bad :: .bad :: .bad :: .bad :: .bad :: .bad :: .bad :: .bad :: .bad :: .bad :: .bad :: .bad :: .bad :: .bad :: .bad :: .bad :: .bad :: .bad :: .bad :: .bad :: .bad :: .bad :: .bad :: .bad :: .bad :: .bad :: .bad :: .bad :: .bad :: .bad :: .bad :: .bad :: .bad :: .bad :: .bad :: .bad :: .bad :: .bad :: .bad :: .bad :: .bad :: .bad :: .bad :: .bad :: .bad :: .bad :: .bad :: .bad :: .bad :: .bad :: .bad :: .bad :: .bad :: .bad :: .bad :: .pu 3 (l.map fun x => .ag (csF x)) .u :: .i .i64 (l.length : Nat) :: .i .i64 (i : Nat) :: List.replicate 45 .bad)
theorem clF {s z : St} {Q : XM → List V → St → Prop} (ms : List Mv) (sp av : V) (tk : Option Nat) (xs : List (List UInt8)) (l : List RwF) (hl : l.length ≤ 100000) (hxs : xs.length ≤ 600000) (hok : ∀ x ∈ l, (i64 x.1.1 ∧ i64 x.1.2) ∧ i64 x.2) (hms : ms.length ≤ 1000) (hn : ∀ m ∈ ms, Nm s0.L m.v) (hw : ∀ m ∈ ms, m.wf) (hl0 : refF (evs ms) = l) (K : Kn s z [.ac 1 av (xs.map V.s) tk])
    (hQ : ∀ e z' av' tk', fg [0, 6, 9] e = EC6 (.pu 47 (ms.map Mv.v) .u) sp av' → Kn s z' [.ac 1 av' ((xs ++ l.map lnF).map V.s) tk'] → Q .nrm e z') :
    HM gt1 Tryz.prog s (sA (nB 8 f6.body)) (EC6 (.pu 47 (ms.map Mv.v) .u) sp av) z Q := by
  have hll : (l.map fun x => V.ag (csF x)).length = l.length := List.length_map ..
  refine kgo ?_; (repeat (first | intro (X:Nat) | intro (z:St) | intro (av:V) | intro (tk:Option Nat) | (intro (K1:Kn _ _ _); (try clear K); rename Kn _ _ _ => K))); conv => whnf
  refine ⟨_, _, up0 (talFw_den ms hms hn hw _ K.x), ?_⟩
  rw [hl0]
  conv => whnf
  refine kgo ?_; (repeat (first | intro (X:Nat) | intro (z:St) | intro (av:V) | intro (tk:Option Nat) | (intro (K1:Kn _ _ _); (try clear K); rename Kn _ _ _ => K))); conv => whnf
  rw [hll]
  refine HM.loop gnm1 fun hg => ⟨fun n e z' => ∃ (i : Nat) (av' : V) (tk' : Option Nat), i ≤ l.length ∧ n = l.length - i ∧ e = ECF (.pu 47 (ms.map Mv.v) .u) sp av' l i ∧ Kn s z' [.ac 1 av' ((xs ++ (l.take i).map lnF).map V.s) tk'],
    ⟨l.length, fg [0, 6, 9, 126, 127, 128] _, _, WkM.fg hg, 0, av, tk, Nat.zero_le _, rfl, rfl, K.cast (by rw [List.take_zero, List.map_nil, List.append_nil])⟩, ?_⟩
  clear K
  rintro n e z1 ⟨i, av', tk', hi, rfl, rfl, K⟩
  conv => whnf
  refine kgo ?_; (repeat (first | intro (X:Nat) | intro (z:St) | intro (av:V) | intro (tk:Option Nat) | (intro (K1:Kn _ _ _); (try clear K); rename Kn _ _ _ => K))); conv => whnf
  refine brL ⟨fun hlt => ?_, fun hge => ?_⟩ <;> conv => whnf
  · have hx : l[i]? = some l[i] := List.getElem?_eq_getElem hlt
    have hxo := hok _ (List.getElem_mem hlt)
    generalize l[i] = x at hx hxo
    have hmi : (l.map fun x => V.ag (csF x))[((i : Nat) : Int).toNat]? = some (.ag (csF x)) := by simp [hx]
    have hal : ((xs ++ (l.take i).map lnF).map V.s).length ≤ 700000 := by simp; omega
    refine kgo ?_; (repeat (first | intro (X:Nat) | intro (z:St) | intro (av:V) | intro (tk:Option Nat) | (intro (K1:Kn _ _ _); (try clear K); rename Kn _ _ _ => K))); conv => whnf
    refine kbsl3 ?_
    conv => whnf
    refine kgo ?_; (repeat (first | intro (X:Nat) | intro (z:St) | intro (av:V) | intro (tk:Option Nat) | (intro (K1:Kn _ _ _); (try clear K); rename Kn _ _ _ => K))); conv => whnf
    refine ⟨_, _, words11_den (.x 3) [102, 108, 111, 119] (nuF x) (by decide) (by simp [nuF]) (nuF_ok hxo) _ K.x, ?_⟩
    conv => whnf
    refine kgo ?_; (repeat (first | intro (X:Nat) | intro (z:St) | intro (av:V) | intro (tk:Option Nat) | (intro (K1:Kn _ _ _); (try clear K); rename Kn _ _ _ => K))); conv => whnf
    intro hg'
    exact ⟨l.length - (i + 1), fg [0, 6, 9, 126, 127, 128] _, _, by omega, WkM.fg hg', i + 1, av, tk, hlt, rfl, rfl, (K.drop0 rfl).cast (by rw [List.take_add_one, hx]; simp [lnF])⟩
  · rw [List.take_of_length_le hge] at K
    refine kgo ?_; (repeat (first | intro (X:Nat) | intro (z:St) | intro (av:V) | intro (tk:Option Nat) | (intro (K1:Kn _ _ _); (try clear K); rename Kn _ _ _ => K))); conv => whnf
    exact hQ _ _ _ _ rfl K
end Go.Proofs.YthoojnjcdllgdaaGreatDoor
