/-
  SenderMade: hawserlaw17.plain: the pieces of its run.
-/
import Derived.KernelRfl
import Derived.Test.YtoaplpdbmpendaaGreatDoorSenderMadePlainSt
namespace Go.Proofs.YtoaplpdbmpendaaGreatDoor.senderMade
open Go.Eng
set_option maxRecDepth 1000000
set_option linter.unusedVariables false
set_option linter.unusedSimpArgs false
set_option linter.unusedSectionVars false
namespace plain
theorem negn : ∀ (n : Nat) (key val : List UInt8) (ver : Int), finV Tryz.prog 22 .normal (toStop Tryz.prog R 400 (start (Int.negSucc (n + 1)) key val ver .normal)) = some konst := by
  intros
  kernel_rfl
theorem negd : ∀ (n : Nat) (key val : List UInt8) (ver : Int), finV Tryz.prog 22 .deferred (toStop Tryz.prog R 400 (start (Int.negSucc (n + 1)) key val ver .deferred)) = some konst := by
  intros
  kernel_rfl
theorem minn : ∀ (key val : List UInt8) (ver : Int), finV Tryz.prog 22 .normal (toStop Tryz.prog R 400 (start (Int.negSucc 0) key val ver .normal)) = some konst := by
  intros
  kernel_rfl
theorem mind : ∀ (key val : List UInt8) (ver : Int), finV Tryz.prog 22 .deferred (toStop Tryz.prog R 400 (start (Int.negSucc 0) key val ver .deferred)) = some konst := by
  intros
  kernel_rfl
theorem zeron : ∀ (key val : List UInt8) (ver : Int), finV Tryz.prog 22 .normal (toStop Tryz.prog R 400 (start (Int.ofNat 0) key val ver .normal)) = some konst := by
  intros
  kernel_rfl
theorem zerod : ∀ (key val : List UInt8) (ver : Int), finV Tryz.prog 22 .deferred (toStop Tryz.prog R 400 (start (Int.ofNat 0) key val ver .deferred)) = some konst := by
  intros
  kernel_rfl
theorem big : ∀ (n : Nat) (key val : List UInt8) (ver : Int) (kd : CallKind), (krun Tryz.prog R 46 (start (Int.ofNat (n + 4)) key val ver kd)).map (St.snap keys46) = some (t46 (Int.ofNat (n + 4)) key val ver kd (decide (Int.ofNat (n + 4) > 3))) := by
  intros
  kernel_rfl
theorem bigEndn : ∀ (k : Int) (key val : List UInt8) (ver : Int), finV Tryz.prog 22 .normal (toStop Tryz.prog R 400 ((t46 k key val ver .normal true).st keys46)) = some konst := by
  intros
  kernel_rfl
theorem bigEndd : ∀ (k : Int) (key val : List UInt8) (ver : Int), finV Tryz.prog 22 .deferred (toStop Tryz.prog R 400 ((t46 k key val ver .deferred true).st keys46)) = some konst := by
  intros
  kernel_rfl
theorem empty1n : ∀ (val : List UInt8) (ver : Int), finV Tryz.prog 22 .normal (toStop Tryz.prog R 400 (start (Int.ofNat 1) [] val ver .normal)) = some konst := by
  intros
  kernel_rfl
theorem empty1d : ∀ (val : List UInt8) (ver : Int), finV Tryz.prog 22 .deferred (toStop Tryz.prog R 400 (start (Int.ofNat 1) [] val ver .deferred)) = some konst := by
  intros
  kernel_rfl
theorem one1 : ∀ (c : UInt8) (r val : List UInt8) (ver : Int) (kd : CallKind), (krun Tryz.prog R 65 (start (Int.ofNat 1) (c :: r) val ver kd)).map (St.snap keys65) = some (t65 (Int.ofNat 1) (c :: r) val ver kd (decide (Int.ofNat (c :: r).length ≥ 1))) := by
  intros
  kernel_rfl
theorem empty2n : ∀ (val : List UInt8) (ver : Int), finV Tryz.prog 22 .normal (toStop Tryz.prog R 400 (start (Int.ofNat 2) [] val ver .normal)) = some konst := by
  intros
  kernel_rfl
theorem empty2d : ∀ (val : List UInt8) (ver : Int), finV Tryz.prog 22 .deferred (toStop Tryz.prog R 400 (start (Int.ofNat 2) [] val ver .deferred)) = some konst := by
  intros
  kernel_rfl
theorem one2 : ∀ (c : UInt8) (r val : List UInt8) (ver : Int) (kd : CallKind), (krun Tryz.prog R 65 (start (Int.ofNat 2) (c :: r) val ver kd)).map (St.snap keys65) = some (t65 (Int.ofNat 2) (c :: r) val ver kd (decide (Int.ofNat (c :: r).length ≥ 1))) := by
  intros
  kernel_rfl
theorem empty3n : ∀ (val : List UInt8) (ver : Int), finV Tryz.prog 22 .normal (toStop Tryz.prog R 400 (start (Int.ofNat 3) [] val ver .normal)) = some konst := by
  intros
  kernel_rfl
theorem empty3d : ∀ (val : List UInt8) (ver : Int), finV Tryz.prog 22 .deferred (toStop Tryz.prog R 400 (start (Int.ofNat 3) [] val ver .deferred)) = some konst := by
  intros
  kernel_rfl
theorem one3 : ∀ (c : UInt8) (r val : List UInt8) (ver : Int) (kd : CallKind), (krun Tryz.prog R 65 (start (Int.ofNat 3) (c :: r) val ver kd)).map (St.snap keys65) = some (t65 (Int.ofNat 3) (c :: r) val ver kd (decide (Int.ofNat (c :: r).length ≥ 1))) := by
  intros
  kernel_rfl
theorem two : ∀ (k : Int) (c : UInt8) (r val : List UInt8) (ver : Int) (kd : CallKind), (krun Tryz.prog R 4 ((t65 k (c :: r) val ver kd true).st keys65)).map (St.snap keys69) = some (t69 k (c :: r) val ver kd (decide (Int.ofNat (c :: r).length ≤ 1024))) := by
  intros
  kernel_rfl
theorem longn : ∀ (k : Int) (c : UInt8) (r val : List UInt8) (ver : Int), finV Tryz.prog 22 .normal (toStop Tryz.prog R 400 ((t69 k (c :: r) val ver .normal false).st keys69)) = some konst := by
  intros
  kernel_rfl
theorem longd : ∀ (k : Int) (c : UInt8) (r val : List UInt8) (ver : Int), finV Tryz.prog 22 .deferred (toStop Tryz.prog R 400 ((t69 k (c :: r) val ver .deferred false).st keys69)) = some konst := by
  intros
  kernel_rfl
theorem nuln : ∀ (k : Int) (h : 0 < 2 ^ 8) (r val : List UInt8) (ver : Int), finV Tryz.prog 22 .normal (toStop Tryz.prog R 400 ((t69 k (⟨⟨⟨0, h⟩⟩⟩ :: r) val ver .normal true).st keys69)) = some konst := by
  intros
  kernel_rfl
theorem nuld : ∀ (k : Int) (h : 0 < 2 ^ 8) (r val : List UInt8) (ver : Int), finV Tryz.prog 22 .deferred (toStop Tryz.prog R 400 ((t69 k (⟨⟨⟨0, h⟩⟩⟩ :: r) val ver .deferred true).st keys69)) = some konst := by
  intros
  kernel_rfl
theorem three : ∀ (k : Int) (x : Nat) (h : x + 1 < 2 ^ 8) (r val : List UInt8) (ver : Int) (kd : CallKind), (krun Tryz.prog R 21 ((t69 k (⟨⟨⟨x + 1, h⟩⟩⟩ :: r) val ver kd true).st keys69)).map (St.snap keys90) = some (t90 k (⟨⟨⟨x + 1, h⟩⟩⟩ :: r) val ver kd (decide (Int.ofNat val.length > 65536))) := by
  intros
  kernel_rfl
theorem largen : ∀ (k : Int) (key val : List UInt8) (ver : Int), finV Tryz.prog 22 .normal (toStop Tryz.prog R 400 ((t90 k key val ver .normal true).st keys90)) = some konst := by
  intros
  kernel_rfl
theorem larged : ∀ (k : Int) (key val : List UInt8) (ver : Int), finV Tryz.prog 22 .deferred (toStop Tryz.prog R 400 ((t90 k key val ver .deferred true).st keys90)) = some konst := by
  intros
  kernel_rfl
theorem some2 : ∀ (key val : List UInt8) (ver : Int) (kd : CallKind), (krun Tryz.prog R 8 ((t90 (Int.ofNat 2) key val ver kd false).st keys90)).map (St.snap keys98) = some (t98 key val ver kd (!((str val).toList == (ByteArray.mk #[]).toList))) := by
  intros
  kernel_rfl
theorem deln : ∀ (key val : List UInt8) (ver : Int), finV Tryz.prog 22 .normal (toStop Tryz.prog R 400 ((t98 key val ver .normal true).st keys98)) = some konst := by
  intros
  kernel_rfl
theorem deld : ∀ (key val : List UInt8) (ver : Int), finV Tryz.prog 22 .deferred (toStop Tryz.prog R 400 ((t98 key val ver .deferred true).st keys98)) = some konst := by
  intros
  kernel_rfl
theorem low1n : ∀ (key val : List UInt8) (m : Nat), finV Tryz.prog 22 .normal (toStop Tryz.prog R 400 ((t90 (Int.ofNat 1) key val (Int.negSucc (m + 1)) .normal false).st keys90)) = some konst := by
  intros
  kernel_rfl
theorem low1d : ∀ (key val : List UInt8) (m : Nat), finV Tryz.prog 22 .deferred (toStop Tryz.prog R 400 ((t90 (Int.ofNat 1) key val (Int.negSucc (m + 1)) .deferred false).st keys90)) = some konst := by
  intros
  kernel_rfl
theorem least1n : ∀ (key val : List UInt8), finV Tryz.prog 22 .normal (toStop Tryz.prog R 400 ((t90 (Int.ofNat 1) key val (Int.negSucc 0) .normal false).st keys90)) = some konst := by
  intros
  kernel_rfl
theorem least1d : ∀ (key val : List UInt8), finV Tryz.prog 22 .deferred (toStop Tryz.prog R 400 ((t90 (Int.ofNat 1) key val (Int.negSucc 0) .deferred false).st keys90)) = some konst := by
  intros
  kernel_rfl
theorem nil1n : ∀ (key val : List UInt8), finV Tryz.prog 22 .normal (toStop Tryz.prog R 400 ((t90 (Int.ofNat 1) key val (Int.ofNat 0) .normal false).st keys90)) = some (opv (Int.ofNat 1) key val (Int.ofNat 0)) := by
  intros
  kernel_rfl
theorem nil1d : ∀ (key val : List UInt8), finV Tryz.prog 22 .deferred (toStop Tryz.prog R 400 ((t90 (Int.ofNat 1) key val (Int.ofNat 0) .deferred false).st keys90)) = some (opv (Int.ofNat 1) key val (Int.ofNat 0)) := by
  intros
  kernel_rfl
theorem four1 : ∀ (key val : List UInt8) (m : Nat) (kd : CallKind), (krun Tryz.prog R 23 ((t90 (Int.ofNat 1) key val (Int.ofNat (m + 1)) kd false).st keys90)).map (St.snap keys113) = some (t113_1 key val (m + 1) kd (decide (Int.ofNat (m + 1) > 1152921504606846976))) := by
  intros
  kernel_rfl
theorem high1n : ∀ (key val : List UInt8) (m : Nat), finV Tryz.prog 22 .normal (toStop Tryz.prog R 400 ((t113_1 key val (m + 1) .normal true).st keys113)) = some konst := by
  intros
  kernel_rfl
theorem high1d : ∀ (key val : List UInt8) (m : Nat), finV Tryz.prog 22 .deferred (toStop Tryz.prog R 400 ((t113_1 key val (m + 1) .deferred true).st keys113)) = some konst := by
  intros
  kernel_rfl
theorem last1n : ∀ (key val : List UInt8) (m : Nat), finV Tryz.prog 22 .normal (toStop Tryz.prog R 400 ((t113_1 key val (m + 1) .normal false).st keys113)) = some konst := by
  intros
  kernel_rfl
theorem last1d : ∀ (key val : List UInt8) (m : Nat), finV Tryz.prog 22 .deferred (toStop Tryz.prog R 400 ((t113_1 key val (m + 1) .deferred false).st keys113)) = some konst := by
  intros
  kernel_rfl
theorem low2n : ∀ (key val : List UInt8) (m : Nat), finV Tryz.prog 22 .normal (toStop Tryz.prog R 400 ((t98 key val (Int.negSucc (m + 1)) .normal false).st keys98)) = some konst := by
  intros
  kernel_rfl
theorem low2d : ∀ (key val : List UInt8) (m : Nat), finV Tryz.prog 22 .deferred (toStop Tryz.prog R 400 ((t98 key val (Int.negSucc (m + 1)) .deferred false).st keys98)) = some konst := by
  intros
  kernel_rfl
theorem least2n : ∀ (key val : List UInt8), finV Tryz.prog 22 .normal (toStop Tryz.prog R 400 ((t98 key val (Int.negSucc 0) .normal false).st keys98)) = some konst := by
  intros
  kernel_rfl
theorem least2d : ∀ (key val : List UInt8), finV Tryz.prog 22 .deferred (toStop Tryz.prog R 400 ((t98 key val (Int.negSucc 0) .deferred false).st keys98)) = some konst := by
  intros
  kernel_rfl
theorem nil2n : ∀ (key val : List UInt8), finV Tryz.prog 22 .normal (toStop Tryz.prog R 400 ((t98 key val (Int.ofNat 0) .normal false).st keys98)) = some (opv (Int.ofNat 2) key val (Int.ofNat 0)) := by
  intros
  kernel_rfl
theorem nil2d : ∀ (key val : List UInt8), finV Tryz.prog 22 .deferred (toStop Tryz.prog R 400 ((t98 key val (Int.ofNat 0) .deferred false).st keys98)) = some (opv (Int.ofNat 2) key val (Int.ofNat 0)) := by
  intros
  kernel_rfl
theorem four2 : ∀ (key val : List UInt8) (m : Nat) (kd : CallKind), (krun Tryz.prog R 15 ((t98 key val (Int.ofNat (m + 1)) kd false).st keys98)).map (St.snap keys113) = some (t113_2 key val (m + 1) kd (decide (Int.ofNat (m + 1) > 1152921504606846976))) := by
  intros
  kernel_rfl
theorem high2n : ∀ (key val : List UInt8) (m : Nat), finV Tryz.prog 22 .normal (toStop Tryz.prog R 400 ((t113_2 key val (m + 1) .normal true).st keys113)) = some konst := by
  intros
  kernel_rfl
theorem high2d : ∀ (key val : List UInt8) (m : Nat), finV Tryz.prog 22 .deferred (toStop Tryz.prog R 400 ((t113_2 key val (m + 1) .deferred true).st keys113)) = some konst := by
  intros
  kernel_rfl
theorem last2n : ∀ (key val : List UInt8) (m : Nat), finV Tryz.prog 22 .normal (toStop Tryz.prog R 400 ((t113_2 key val (m + 1) .normal false).st keys113)) = some konst := by
  intros
  kernel_rfl
theorem last2d : ∀ (key val : List UInt8) (m : Nat), finV Tryz.prog 22 .deferred (toStop Tryz.prog R 400 ((t113_2 key val (m + 1) .deferred false).st keys113)) = some konst := by
  intros
  kernel_rfl
theorem low3n : ∀ (key val : List UInt8) (m : Nat), finV Tryz.prog 22 .normal (toStop Tryz.prog R 400 ((t90 (Int.ofNat 3) key val (Int.negSucc (m + 1)) .normal false).st keys90)) = some konst := by
  intros
  kernel_rfl
theorem low3d : ∀ (key val : List UInt8) (m : Nat), finV Tryz.prog 22 .deferred (toStop Tryz.prog R 400 ((t90 (Int.ofNat 3) key val (Int.negSucc (m + 1)) .deferred false).st keys90)) = some konst := by
  intros
  kernel_rfl
theorem least3n : ∀ (key val : List UInt8), finV Tryz.prog 22 .normal (toStop Tryz.prog R 400 ((t90 (Int.ofNat 3) key val (Int.negSucc 0) .normal false).st keys90)) = some konst := by
  intros
  kernel_rfl
theorem least3d : ∀ (key val : List UInt8), finV Tryz.prog 22 .deferred (toStop Tryz.prog R 400 ((t90 (Int.ofNat 3) key val (Int.negSucc 0) .deferred false).st keys90)) = some konst := by
  intros
  kernel_rfl
theorem nil3n : ∀ (key val : List UInt8), finV Tryz.prog 22 .normal (toStop Tryz.prog R 400 ((t90 (Int.ofNat 3) key val (Int.ofNat 0) .normal false).st keys90)) = some (opv (Int.ofNat 3) key val (Int.ofNat 0)) := by
  intros
  kernel_rfl
theorem nil3d : ∀ (key val : List UInt8), finV Tryz.prog 22 .deferred (toStop Tryz.prog R 400 ((t90 (Int.ofNat 3) key val (Int.ofNat 0) .deferred false).st keys90)) = some (opv (Int.ofNat 3) key val (Int.ofNat 0)) := by
  intros
  kernel_rfl
theorem four3 : ∀ (key val : List UInt8) (m : Nat) (kd : CallKind), (krun Tryz.prog R 23 ((t90 (Int.ofNat 3) key val (Int.ofNat (m + 1)) kd false).st keys90)).map (St.snap keys113) = some (t113_3 key val (m + 1) kd (decide (Int.ofNat (m + 1) > 1152921504606846976))) := by
  intros
  kernel_rfl
theorem high3n : ∀ (key val : List UInt8) (m : Nat), finV Tryz.prog 22 .normal (toStop Tryz.prog R 400 ((t113_3 key val (m + 1) .normal true).st keys113)) = some konst := by
  intros
  kernel_rfl
theorem high3d : ∀ (key val : List UInt8) (m : Nat), finV Tryz.prog 22 .deferred (toStop Tryz.prog R 400 ((t113_3 key val (m + 1) .deferred true).st keys113)) = some konst := by
  intros
  kernel_rfl
theorem last3n : ∀ (key val : List UInt8) (m : Nat), finV Tryz.prog 22 .normal (toStop Tryz.prog R 400 ((t113_3 key val (m + 1) .normal false).st keys113)) = some (opv (Int.ofNat 3) key val (Int.ofNat (m + 1))) := by
  intros
  kernel_rfl
theorem last3d : ∀ (key val : List UInt8) (m : Nat), finV Tryz.prog 22 .deferred (toStop Tryz.prog R 400 ((t113_3 key val (m + 1) .deferred false).st keys113)) = some (opv (Int.ofNat 3) key val (Int.ofNat (m + 1))) := by
  intros
  kernel_rfl
end plain
end Go.Proofs.YtoaplpdbmpendaaGreatDoor.senderMade
