/- What the functions that several laws reach compute, each by its code, against pure functions. Conditions: those that each theorem states. -/
import Derived.Test.YtnbfnennddnmlaaGreatQH3
import Derived.Test.YtnbfnennddnmlaaGreatProg
import Derived.KernelRfl
section
set_option linter.unusedSimpArgs false
namespace Go.H
open Go
def cpT : Dep → T → Prop
  | none, t => t.solid = true
  | some _, t => t.flat = true
def cpL (d : Dep) : List T → Prop
  | [] => True
  | t :: ts => cpT d t ∧ cpL d ts
theorem cpL_iff {d : Dep} : ∀ {r : List T}, cpL d r ↔ ∀ t ∈ r, cpT d t
  | [] => by simp [cpL]
  | t :: ts => by simp [cpL, cpL_iff (r := ts)]
theorem cpRows_cons (d : Dep) (r : List T) (rs : List (List T)) : cpRows d (r :: rs) = (cpL d r ∧ cpRows d rs) := by
  rw [eq_iff_iff, cpL_iff]
  cases d <;> simp [cpRows, cpT]
theorem cpRows_nil (d : Dep) : cpRows d [] = True := by
  cases d <;> simp [cpRows]
attribute [go_sem] cpRows_cons cpRows_nil cpL cpT T.solid T.flat
theorem cpRowsN_map {α : Type} (f : α → List T) (h : ∀ x, ∀ t ∈ f x, t.solid = true) (xs : List α) : cpRows none (xs.map f) = True := by
  rw [eq_iff_iff]
  unfold cpRows
  simp only [List.mem_map, iff_true]
  rintro r ⟨x, _, rfl⟩ t ht
  exact h x t ht
theorem getD_map_ {α : Type} (f : α → List T) (xs : List α) (i : Nat) (d : α) : (xs.map f).getD i (f d) = f (xs.getD i d) := by
  simp only [List.getD_eq_getElem?_getD, List.getElem?_map]
  cases xs[i]? <;> rfl
theorem noShR_map {α : Type} (f : α → List T) (h : ∀ x, T.noShL (f x)) (xs : List α) : T.noShR (xs.map f) = True := by
  rw [eq_iff_iff, T.noShR_iff]
  simp only [List.mem_map, forall_exists_index, and_imp, forall_apply_eq_imp_iff₂, h, implies_true]
theorem roRows_map {α : Type} (f g : α → List T) (h : ∀ x, (f x).map T.ro = g x) (xs : List α) : roRows (xs.map f) = xs.map g := by
  simp only [roRows, List.map_map]
  exact List.map_congr_left fun x _ => h x
theorem cpRows_map {α : Type} (f : α → List T) (h : ∀ x, ∀ t ∈ f x, t.flat = true) (d : Dep) (xs : List α) : cpRows d (xs.map f) = True := by
  rw [eq_iff_iff]
  unfold cpRows
  cases d
  · simp only [List.mem_map, iff_true]
    rintro r ⟨x, _, rfl⟩ t ht
    exact T.flat_solid (h x t ht)
  · simp only [List.mem_map, iff_true]
    rintro r ⟨x, _, rfl⟩ t ht
    exact h x t ht
def eI_i64 (n : Int) : List T := [.int .i64 n]
def zI_i64 : Int := 0
def dI_i64 : List T := eI_i64 zI_i64
theorem getD_I_i64 (xs : List Int) (i : Nat) : (xs.map eI_i64).getD i dI_i64 = eI_i64 (xs.getD i zI_i64) := getD_map_ ..
theorem shrR_I_i64 (xs : List Int) : T.shrR (xs.map eI_i64) = xs.map eI_i64 := T.shrR_map _ _ (fun _ => rfl) xs
theorem noShR_I_i64 (xs : List Int) : T.noShR (xs.map eI_i64) = True := noShR_map _ (fun _ => by simp [eI_i64, T.noShL, T.noSh]) xs
theorem roRows_I_i64 (xs : List Int) : roRows (xs.map eI_i64) = xs.map eI_i64 := roRows_map _ _ (fun _ => rfl) xs
theorem cpRows_I_i64 (d : Dep) (xs : List Int) : cpRows d (xs.map eI_i64) = True := cpRows_map _ (fun _ => by simp [eI_i64, T.flat]) d xs
attribute [go_sem] getD_I_i64 shrR_I_i64 noShR_I_i64 roRows_I_i64 cpRows_I_i64
theorem dropd_I_i64 : List.drop 1 dI_i64 = [] := rfl
theorem tm_I_i64 : tm dI_i64 = [.int .i64 0] := rfl
attribute [go_sem] dropd_I_i64 tm_I_i64
structure Backend where
  name : Int
  address : Int
  weight : Int
  stage : Int
  up : Bool
def eBackend (x : Backend) : List T := [.int .i64 x.name, .int .i64 x.address, .int .i64 x.weight, .int .i64 x.stage, .bool x.up]
def zBackend : Backend := ⟨0, 0, 0, 0, false⟩
def dBackend : List T := eBackend zBackend
theorem getD_Backend (xs : List Backend) (i : Nat) : (xs.map eBackend).getD i dBackend = eBackend (xs.getD i zBackend) := getD_map_ ..
theorem shrR_Backend (xs : List Backend) : T.shrR (xs.map eBackend) = xs.map eBackend := T.shrR_map _ _ (fun _ => rfl) xs
theorem noShR_Backend (xs : List Backend) : T.noShR (xs.map eBackend) = True := noShR_map _ (fun _ => by simp [eBackend, T.noShL, T.noSh]) xs
theorem roRows_Backend (xs : List Backend) : roRows (xs.map eBackend) = xs.map eBackend := roRows_map _ _ (fun _ => rfl) xs
theorem cpRows_Backend (d : Dep) (xs : List Backend) : cpRows d (xs.map eBackend) = True := cpRows_map _ (fun _ => by simp [eBackend, T.flat]) d xs
attribute [go_sem] getD_Backend shrR_Backend noShR_Backend roRows_Backend cpRows_Backend
theorem dropd_Backend : List.drop 5 dBackend = [] := rfl
theorem tm_Backend : tm dBackend = [.int .i64 0, .int .i64 0, .int .i64 0, .int .i64 0, .bool false] := rfl
attribute [go_sem] dropd_Backend tm_Backend
structure Vip where
  address : Int
  port : Int
  proto : Int
  names : List Int
def eVip (o : Bool) (x : Vip) : List T := [.int .i64 x.address, .int .i64 x.port, .int .i64 x.proto, .sl o 1 (x.names.map eI_i64)]
def zVip : Vip := ⟨0, 0, 0, []⟩
def dVip (o : Bool) : List T := eVip o zVip
theorem getD_Vip (o : Bool) (xs : List Vip) (i : Nat) : (xs.map (eVip o)).getD i (dVip o) = eVip o (xs.getD i zVip) := getD_map_ ..
theorem shrR_Vip (o : Bool) (xs : List Vip) : T.shrR (xs.map (eVip o)) = xs.map (eVip false) := T.shrR_map _ _ (fun x => by simp only [eVip, T.shrL, T.shr, shrR_I_i64]) xs
theorem noShR_Vip (xs : List Vip) : T.noShR (xs.map (eVip true)) = True := noShR_map _ (fun _ => by simp [eVip, T.noShL, T.noSh, noShR_I_i64]) xs
theorem cpRows_Vip (o : Bool) (xs : List Vip) : cpRows none (xs.map (eVip o)) = True := cpRowsN_map _ (fun _ => by simp [eVip, T.solid]) xs
attribute [go_sem] getD_Vip shrR_Vip noShR_Vip cpRows_Vip
theorem dropd_Vip (o : Bool) : List.drop 4 (dVip o) = [] := rfl
theorem tm_Vip : tm (dVip true) = [.int .i64 0, .int .i64 0, .int .i64 0, .sl true 1 []] := rfl
attribute [go_sem] dropd_Vip tm_Vip
def qVip (x : Vip) : Prop := x.names.length ≤ 9223372036854775807
structure Config where
  version : Int
  backends : List Backend
  vips : List Vip
def eConfig (o : Bool) (x : Config) : List T := [.int .i64 x.version, .sl o 5 (x.backends.map eBackend), .sl o 4 (x.vips.map (eVip o))]
def zConfig : Config := ⟨0, [], []⟩
def dConfig (o : Bool) : List T := eConfig o zConfig
theorem getD_Config (o : Bool) (xs : List Config) (i : Nat) : (xs.map (eConfig o)).getD i (dConfig o) = eConfig o (xs.getD i zConfig) := getD_map_ ..
theorem shrR_Config (o : Bool) (xs : List Config) : T.shrR (xs.map (eConfig o)) = xs.map (eConfig false) := T.shrR_map _ _ (fun x => by simp only [eConfig, T.shrL, T.shr, shrR_Backend, shrR_Vip]) xs
theorem noShR_Config (xs : List Config) : T.noShR (xs.map (eConfig true)) = True := noShR_map _ (fun _ => by simp [eConfig, T.noShL, T.noSh, noShR_Backend, noShR_Vip]) xs
theorem cpRows_Config (o : Bool) (xs : List Config) : cpRows none (xs.map (eConfig o)) = True := cpRowsN_map _ (fun _ => by simp [eConfig, T.solid]) xs
attribute [go_sem] getD_Config shrR_Config noShR_Config cpRows_Config
theorem dropd_Config (o : Bool) : List.drop 3 (dConfig o) = [] := rfl
theorem tm_Config : tm (dConfig true) = [.int .i64 0, .sl true 5 [], .sl true 4 []] := rfl
attribute [go_sem] dropd_Config tm_Config
def qConfig (x : Config) : Prop := x.backends.length ≤ 9223372036854775807 ∧ (x.vips.length ≤ 9223372036854775807 ∧ ∀ y ∈ x.vips, qVip y)
structure ConfigResult where
  code : Int
  config : Config
def eConfigResult (o : Bool) (x : ConfigResult) : List T := [.int .i64 x.code, .int .i64 x.config.version, .sl o 5 (x.config.backends.map eBackend), .sl o 4 (x.config.vips.map (eVip o))]
def zConfigResult : ConfigResult := ⟨0, zConfig⟩
def dConfigResult (o : Bool) : List T := eConfigResult o zConfigResult
theorem getD_ConfigResult (o : Bool) (xs : List ConfigResult) (i : Nat) : (xs.map (eConfigResult o)).getD i (dConfigResult o) = eConfigResult o (xs.getD i zConfigResult) := getD_map_ ..
theorem shrR_ConfigResult (o : Bool) (xs : List ConfigResult) : T.shrR (xs.map (eConfigResult o)) = xs.map (eConfigResult false) := T.shrR_map _ _ (fun x => by simp only [eConfigResult, T.shrL, T.shr, shrR_Backend, shrR_Vip]) xs
theorem noShR_ConfigResult (xs : List ConfigResult) : T.noShR (xs.map (eConfigResult true)) = True := noShR_map _ (fun _ => by simp [eConfigResult, T.noShL, T.noSh, noShR_Backend, noShR_Vip]) xs
theorem cpRows_ConfigResult (o : Bool) (xs : List ConfigResult) : cpRows none (xs.map (eConfigResult o)) = True := cpRowsN_map _ (fun _ => by simp [eConfigResult, T.solid]) xs
attribute [go_sem] getD_ConfigResult shrR_ConfigResult noShR_ConfigResult cpRows_ConfigResult
theorem dropd_ConfigResult (o : Bool) : List.drop 4 (dConfigResult o) = [] := rfl
theorem tm_ConfigResult : tm (dConfigResult true) = [.int .i64 0, .int .i64 0, .sl true 5 [], .sl true 4 []] := rfl
attribute [go_sem] dropd_ConfigResult tm_ConfigResult
def qConfigResult (x : ConfigResult) : Prop := qConfig x.config
structure Cmd where
  kind : Int
  expect : Int
  name : Int
  addr : Int
  number : Int
  proto : Int
def eCmd (x : Cmd) : List T := [.int .i64 x.kind, .int .i64 x.expect, .int .i64 x.name, .int .i64 x.addr, .int .i64 x.number, .int .i64 x.proto]
def zCmd : Cmd := ⟨0, 0, 0, 0, 0, 0⟩
def dCmd : List T := eCmd zCmd
theorem getD_Cmd (xs : List Cmd) (i : Nat) : (xs.map eCmd).getD i dCmd = eCmd (xs.getD i zCmd) := getD_map_ ..
theorem shrR_Cmd (xs : List Cmd) : T.shrR (xs.map eCmd) = xs.map eCmd := T.shrR_map _ _ (fun _ => rfl) xs
theorem noShR_Cmd (xs : List Cmd) : T.noShR (xs.map eCmd) = True := noShR_map _ (fun _ => by simp [eCmd, T.noShL, T.noSh]) xs
theorem roRows_Cmd (xs : List Cmd) : roRows (xs.map eCmd) = xs.map eCmd := roRows_map _ _ (fun _ => rfl) xs
theorem cpRows_Cmd (d : Dep) (xs : List Cmd) : cpRows d (xs.map eCmd) = True := cpRows_map _ (fun _ => by simp [eCmd, T.flat]) d xs
attribute [go_sem] getD_Cmd shrR_Cmd noShR_Cmd roRows_Cmd cpRows_Cmd
theorem dropd_Cmd : List.drop 6 dCmd = [] := rfl
theorem tm_Cmd : tm dCmd = [.int .i64 0, .int .i64 0, .int .i64 0, .int .i64 0, .int .i64 0, .int .i64 0] := rfl
attribute [go_sem] dropd_Cmd tm_Cmd
structure Session where
  client : Int
  seq : Int
  code : Int
def eSession (x : Session) : List T := [.int .i64 x.client, .int .i64 x.seq, .int .i64 x.code]
def zSession : Session := ⟨0, 0, 0⟩
def dSession : List T := eSession zSession
theorem getD_Session (xs : List Session) (i : Nat) : (xs.map eSession).getD i dSession = eSession (xs.getD i zSession) := getD_map_ ..
theorem shrR_Session (xs : List Session) : T.shrR (xs.map eSession) = xs.map eSession := T.shrR_map _ _ (fun _ => rfl) xs
theorem noShR_Session (xs : List Session) : T.noShR (xs.map eSession) = True := noShR_map _ (fun _ => by simp [eSession, T.noShL, T.noSh]) xs
theorem roRows_Session (xs : List Session) : roRows (xs.map eSession) = xs.map eSession := roRows_map _ _ (fun _ => rfl) xs
theorem cpRows_Session (d : Dep) (xs : List Session) : cpRows d (xs.map eSession) = True := cpRows_map _ (fun _ => by simp [eSession, T.flat]) d xs
attribute [go_sem] getD_Session shrR_Session noShR_Session roRows_Session cpRows_Session
theorem dropd_Session : List.drop 3 dSession = [] := rfl
theorem tm_Session : tm dSession = [.int .i64 0, .int .i64 0, .int .i64 0] := rfl
attribute [go_sem] dropd_Session tm_Session
structure Machine where
  config : Config
  sessions : List Session
def eMachine (o : Bool) (x : Machine) : List T := [.int .i64 x.config.version, .sl o 5 (x.config.backends.map eBackend), .sl o 4 (x.config.vips.map (eVip o)), .sl o 3 (x.sessions.map eSession)]
def zMachine : Machine := ⟨zConfig, []⟩
def dMachine (o : Bool) : List T := eMachine o zMachine
theorem getD_Machine (o : Bool) (xs : List Machine) (i : Nat) : (xs.map (eMachine o)).getD i (dMachine o) = eMachine o (xs.getD i zMachine) := getD_map_ ..
theorem shrR_Machine (o : Bool) (xs : List Machine) : T.shrR (xs.map (eMachine o)) = xs.map (eMachine false) := T.shrR_map _ _ (fun x => by simp only [eMachine, T.shrL, T.shr, shrR_Backend, shrR_Session, shrR_Vip]) xs
theorem noShR_Machine (xs : List Machine) : T.noShR (xs.map (eMachine true)) = True := noShR_map _ (fun _ => by simp [eMachine, T.noShL, T.noSh, noShR_Backend, noShR_Session, noShR_Vip]) xs
theorem cpRows_Machine (o : Bool) (xs : List Machine) : cpRows none (xs.map (eMachine o)) = True := cpRowsN_map _ (fun _ => by simp [eMachine, T.solid]) xs
attribute [go_sem] getD_Machine shrR_Machine noShR_Machine cpRows_Machine
theorem dropd_Machine (o : Bool) : List.drop 4 (dMachine o) = [] := rfl
theorem tm_Machine : tm (dMachine true) = [.int .i64 0, .sl true 5 [], .sl true 4 [], .sl true 3 []] := rfl
attribute [go_sem] dropd_Machine tm_Machine
def qMachine (x : Machine) : Prop := qConfig x.config ∧ x.sessions.length ≤ 9223372036854775807
structure MachineResult where
  code : Int
  reply : Int
  fresh : Bool
  machine : Machine
def eMachineResult (o : Bool) (x : MachineResult) : List T := [.int .i64 x.code, .int .i64 x.reply, .bool x.fresh, .int .i64 x.machine.config.version, .sl o 5 (x.machine.config.backends.map eBackend), .sl o 4 (x.machine.config.vips.map (eVip o)), .sl o 3 (x.machine.sessions.map eSession)]
def zMachineResult : MachineResult := ⟨0, 0, false, zMachine⟩
def dMachineResult (o : Bool) : List T := eMachineResult o zMachineResult
theorem getD_MachineResult (o : Bool) (xs : List MachineResult) (i : Nat) : (xs.map (eMachineResult o)).getD i (dMachineResult o) = eMachineResult o (xs.getD i zMachineResult) := getD_map_ ..
theorem shrR_MachineResult (o : Bool) (xs : List MachineResult) : T.shrR (xs.map (eMachineResult o)) = xs.map (eMachineResult false) := T.shrR_map _ _ (fun x => by simp only [eMachineResult, T.shrL, T.shr, shrR_Backend, shrR_Session, shrR_Vip]) xs
theorem noShR_MachineResult (xs : List MachineResult) : T.noShR (xs.map (eMachineResult true)) = True := noShR_map _ (fun _ => by simp [eMachineResult, T.noShL, T.noSh, noShR_Backend, noShR_Session, noShR_Vip]) xs
theorem cpRows_MachineResult (o : Bool) (xs : List MachineResult) : cpRows none (xs.map (eMachineResult o)) = True := cpRowsN_map _ (fun _ => by simp [eMachineResult, T.solid]) xs
attribute [go_sem] getD_MachineResult shrR_MachineResult noShR_MachineResult cpRows_MachineResult
theorem dropd_MachineResult (o : Bool) : List.drop 7 (dMachineResult o) = [] := rfl
theorem tm_MachineResult : tm (dMachineResult true) = [.int .i64 0, .int .i64 0, .bool false, .int .i64 0, .sl true 5 [], .sl true 4 [], .sl true 3 []] := rfl
attribute [go_sem] dropd_MachineResult tm_MachineResult
def qMachineResult (x : MachineResult) : Prop := qMachine x.machine
structure Entry where
  term : Int
  client : Int
  seq : Int
  cmd : Cmd
def eEntry (x : Entry) : List T := [.int .i64 x.term, .int .i64 x.client, .int .i64 x.seq, .int .i64 x.cmd.kind, .int .i64 x.cmd.expect, .int .i64 x.cmd.name, .int .i64 x.cmd.addr, .int .i64 x.cmd.number, .int .i64 x.cmd.proto]
def zEntry : Entry := ⟨0, 0, 0, zCmd⟩
def dEntry : List T := eEntry zEntry
theorem getD_Entry (xs : List Entry) (i : Nat) : (xs.map eEntry).getD i dEntry = eEntry (xs.getD i zEntry) := getD_map_ ..
theorem shrR_Entry (xs : List Entry) : T.shrR (xs.map eEntry) = xs.map eEntry := T.shrR_map _ _ (fun _ => rfl) xs
theorem noShR_Entry (xs : List Entry) : T.noShR (xs.map eEntry) = True := noShR_map _ (fun _ => by simp [eEntry, T.noShL, T.noSh]) xs
theorem roRows_Entry (xs : List Entry) : roRows (xs.map eEntry) = xs.map eEntry := roRows_map _ _ (fun _ => rfl) xs
theorem cpRows_Entry (d : Dep) (xs : List Entry) : cpRows d (xs.map eEntry) = True := cpRows_map _ (fun _ => by simp [eEntry, T.flat]) d xs
attribute [go_sem] getD_Entry shrR_Entry noShR_Entry roRows_Entry cpRows_Entry
theorem dropd_Entry : List.drop 9 dEntry = [] := rfl
theorem tm_Entry : tm dEntry = [.int .i64 0, .int .i64 0, .int .i64 0, .int .i64 0, .int .i64 0, .int .i64 0, .int .i64 0, .int .i64 0, .int .i64 0] := rfl
attribute [go_sem] dropd_Entry tm_Entry
structure Update where
  from_ : Int
  to_ : Int
  full : Bool
  config : Config
  cmds : List Cmd
def eUpdate (o : Bool) (x : Update) : List T := [.int .i64 x.from_, .int .i64 x.to_, .bool x.full, .int .i64 x.config.version, .sl o 5 (x.config.backends.map eBackend), .sl o 4 (x.config.vips.map (eVip o)), .sl o 6 (x.cmds.map eCmd)]
def zUpdate : Update := ⟨0, 0, false, zConfig, []⟩
def dUpdate (o : Bool) : List T := eUpdate o zUpdate
theorem getD_Update (o : Bool) (xs : List Update) (i : Nat) : (xs.map (eUpdate o)).getD i (dUpdate o) = eUpdate o (xs.getD i zUpdate) := getD_map_ ..
theorem shrR_Update (o : Bool) (xs : List Update) : T.shrR (xs.map (eUpdate o)) = xs.map (eUpdate false) := T.shrR_map _ _ (fun x => by simp only [eUpdate, T.shrL, T.shr, shrR_Backend, shrR_Cmd, shrR_Vip]) xs
theorem noShR_Update (xs : List Update) : T.noShR (xs.map (eUpdate true)) = True := noShR_map _ (fun _ => by simp [eUpdate, T.noShL, T.noSh, noShR_Backend, noShR_Cmd, noShR_Vip]) xs
theorem cpRows_Update (o : Bool) (xs : List Update) : cpRows none (xs.map (eUpdate o)) = True := cpRowsN_map _ (fun _ => by simp [eUpdate, T.solid]) xs
attribute [go_sem] getD_Update shrR_Update noShR_Update cpRows_Update
theorem dropd_Update (o : Bool) : List.drop 7 (dUpdate o) = [] := rfl
theorem tm_Update : tm (dUpdate true) = [.int .i64 0, .int .i64 0, .bool false, .int .i64 0, .sl true 5 [], .sl true 4 [], .sl true 6 []] := rfl
attribute [go_sem] dropd_Update tm_Update
def qUpdate (x : Update) : Prop := qConfig x.config ∧ x.cmds.length ≤ 9223372036854775807
structure UpdateResult where
  code : Int
  update : Update
def eUpdateResult (o : Bool) (x : UpdateResult) : List T := [.int .i64 x.code, .int .i64 x.update.from_, .int .i64 x.update.to_, .bool x.update.full, .int .i64 x.update.config.version, .sl o 5 (x.update.config.backends.map eBackend), .sl o 4 (x.update.config.vips.map (eVip o)), .sl o 6 (x.update.cmds.map eCmd)]
def zUpdateResult : UpdateResult := ⟨0, zUpdate⟩
def dUpdateResult (o : Bool) : List T := eUpdateResult o zUpdateResult
theorem getD_UpdateResult (o : Bool) (xs : List UpdateResult) (i : Nat) : (xs.map (eUpdateResult o)).getD i (dUpdateResult o) = eUpdateResult o (xs.getD i zUpdateResult) := getD_map_ ..
theorem shrR_UpdateResult (o : Bool) (xs : List UpdateResult) : T.shrR (xs.map (eUpdateResult o)) = xs.map (eUpdateResult false) := T.shrR_map _ _ (fun x => by simp only [eUpdateResult, T.shrL, T.shr, shrR_Backend, shrR_Cmd, shrR_Vip]) xs
theorem noShR_UpdateResult (xs : List UpdateResult) : T.noShR (xs.map (eUpdateResult true)) = True := noShR_map _ (fun _ => by simp [eUpdateResult, T.noShL, T.noSh, noShR_Backend, noShR_Cmd, noShR_Vip]) xs
theorem cpRows_UpdateResult (o : Bool) (xs : List UpdateResult) : cpRows none (xs.map (eUpdateResult o)) = True := cpRowsN_map _ (fun _ => by simp [eUpdateResult, T.solid]) xs
attribute [go_sem] getD_UpdateResult shrR_UpdateResult noShR_UpdateResult cpRows_UpdateResult
theorem dropd_UpdateResult (o : Bool) : List.drop 8 (dUpdateResult o) = [] := rfl
theorem tm_UpdateResult : tm (dUpdateResult true) = [.int .i64 0, .int .i64 0, .int .i64 0, .bool false, .int .i64 0, .sl true 5 [], .sl true 4 [], .sl true 6 []] := rfl
attribute [go_sem] dropd_UpdateResult tm_UpdateResult
def qUpdateResult (x : UpdateResult) : Prop := qUpdate x.update
structure Watch where
  ready : Bool
  config : Config
def eWatch (o : Bool) (x : Watch) : List T := [.bool x.ready, .int .i64 x.config.version, .sl o 5 (x.config.backends.map eBackend), .sl o 4 (x.config.vips.map (eVip o))]
def zWatch : Watch := ⟨false, zConfig⟩
def dWatch (o : Bool) : List T := eWatch o zWatch
theorem getD_Watch (o : Bool) (xs : List Watch) (i : Nat) : (xs.map (eWatch o)).getD i (dWatch o) = eWatch o (xs.getD i zWatch) := getD_map_ ..
theorem shrR_Watch (o : Bool) (xs : List Watch) : T.shrR (xs.map (eWatch o)) = xs.map (eWatch false) := T.shrR_map _ _ (fun x => by simp only [eWatch, T.shrL, T.shr, shrR_Backend, shrR_Vip]) xs
theorem noShR_Watch (xs : List Watch) : T.noShR (xs.map (eWatch true)) = True := noShR_map _ (fun _ => by simp [eWatch, T.noShL, T.noSh, noShR_Backend, noShR_Vip]) xs
theorem cpRows_Watch (o : Bool) (xs : List Watch) : cpRows none (xs.map (eWatch o)) = True := cpRowsN_map _ (fun _ => by simp [eWatch, T.solid]) xs
attribute [go_sem] getD_Watch shrR_Watch noShR_Watch cpRows_Watch
theorem dropd_Watch (o : Bool) : List.drop 4 (dWatch o) = [] := rfl
theorem tm_Watch : tm (dWatch true) = [.bool false, .int .i64 0, .sl true 5 [], .sl true 4 []] := rfl
attribute [go_sem] dropd_Watch tm_Watch
def qWatch (x : Watch) : Prop := qConfig x.config
structure WatchResult where
  code : Int
  watch : Watch
def eWatchResult (o : Bool) (x : WatchResult) : List T := [.int .i64 x.code, .bool x.watch.ready, .int .i64 x.watch.config.version, .sl o 5 (x.watch.config.backends.map eBackend), .sl o 4 (x.watch.config.vips.map (eVip o))]
def zWatchResult : WatchResult := ⟨0, zWatch⟩
def dWatchResult (o : Bool) : List T := eWatchResult o zWatchResult
theorem getD_WatchResult (o : Bool) (xs : List WatchResult) (i : Nat) : (xs.map (eWatchResult o)).getD i (dWatchResult o) = eWatchResult o (xs.getD i zWatchResult) := getD_map_ ..
theorem shrR_WatchResult (o : Bool) (xs : List WatchResult) : T.shrR (xs.map (eWatchResult o)) = xs.map (eWatchResult false) := T.shrR_map _ _ (fun x => by simp only [eWatchResult, T.shrL, T.shr, shrR_Backend, shrR_Vip]) xs
theorem noShR_WatchResult (xs : List WatchResult) : T.noShR (xs.map (eWatchResult true)) = True := noShR_map _ (fun _ => by simp [eWatchResult, T.noShL, T.noSh, noShR_Backend, noShR_Vip]) xs
theorem cpRows_WatchResult (o : Bool) (xs : List WatchResult) : cpRows none (xs.map (eWatchResult o)) = True := cpRowsN_map _ (fun _ => by simp [eWatchResult, T.solid]) xs
attribute [go_sem] getD_WatchResult shrR_WatchResult noShR_WatchResult cpRows_WatchResult
theorem dropd_WatchResult (o : Bool) : List.drop 5 (dWatchResult o) = [] := rfl
theorem tm_WatchResult : tm (dWatchResult true) = [.int .i64 0, .bool false, .int .i64 0, .sl true 5 [], .sl true 4 []] := rfl
attribute [go_sem] dropd_WatchResult tm_WatchResult
def qWatchResult (x : WatchResult) : Prop := qWatch x.watch
def eI_u8 (n : Int) : List T := [.int .u8 n]
def zI_u8 : Int := 0
def dI_u8 : List T := eI_u8 zI_u8
theorem getD_I_u8 (xs : List Int) (i : Nat) : (xs.map eI_u8).getD i dI_u8 = eI_u8 (xs.getD i zI_u8) := getD_map_ ..
theorem shrR_I_u8 (xs : List Int) : T.shrR (xs.map eI_u8) = xs.map eI_u8 := T.shrR_map _ _ (fun _ => rfl) xs
theorem noShR_I_u8 (xs : List Int) : T.noShR (xs.map eI_u8) = True := noShR_map _ (fun _ => by simp [eI_u8, T.noShL, T.noSh]) xs
theorem roRows_I_u8 (xs : List Int) : roRows (xs.map eI_u8) = xs.map eI_u8 := roRows_map _ _ (fun _ => rfl) xs
theorem cpRows_I_u8 (d : Dep) (xs : List Int) : cpRows d (xs.map eI_u8) = True := cpRows_map _ (fun _ => by simp [eI_u8, T.flat]) d xs
attribute [go_sem] getD_I_u8 shrR_I_u8 noShR_I_u8 roRows_I_u8 cpRows_I_u8
theorem dropd_I_u8 : List.drop 1 dI_u8 = [] := rfl
theorem tm_I_u8 : tm dI_u8 = [.int .u8 0] := rfl
attribute [go_sem] dropd_I_u8 tm_I_u8
structure Share where
  name : Int
  weight : Int
def eShare (x : Share) : List T := [.int .i64 x.name, .int .i64 x.weight]
def zShare : Share := ⟨0, 0⟩
def dShare : List T := eShare zShare
theorem getD_Share (xs : List Share) (i : Nat) : (xs.map eShare).getD i dShare = eShare (xs.getD i zShare) := getD_map_ ..
theorem shrR_Share (xs : List Share) : T.shrR (xs.map eShare) = xs.map eShare := T.shrR_map _ _ (fun _ => rfl) xs
theorem noShR_Share (xs : List Share) : T.noShR (xs.map eShare) = True := noShR_map _ (fun _ => by simp [eShare, T.noShL, T.noSh]) xs
theorem roRows_Share (xs : List Share) : roRows (xs.map eShare) = xs.map eShare := roRows_map _ _ (fun _ => rfl) xs
theorem cpRows_Share (d : Dep) (xs : List Share) : cpRows d (xs.map eShare) = True := cpRows_map _ (fun _ => by simp [eShare, T.flat]) d xs
attribute [go_sem] getD_Share shrR_Share noShR_Share roRows_Share cpRows_Share
theorem dropd_Share : List.drop 2 dShare = [] := rfl
theorem tm_Share : tm dShare = [.int .i64 0, .int .i64 0] := rfl
attribute [go_sem] dropd_Share tm_Share
structure Flow where
  from_ : Int
  to_ : Int
  proto : Int
  fromP : Int
  toP : Int
def eFlow (x : Flow) : List T := [.int .i64 x.from_, .int .i64 x.to_, .int .i64 x.proto, .int .i64 x.fromP, .int .i64 x.toP]
def zFlow : Flow := ⟨0, 0, 0, 0, 0⟩
def dFlow : List T := eFlow zFlow
theorem getD_Flow (xs : List Flow) (i : Nat) : (xs.map eFlow).getD i dFlow = eFlow (xs.getD i zFlow) := getD_map_ ..
theorem shrR_Flow (xs : List Flow) : T.shrR (xs.map eFlow) = xs.map eFlow := T.shrR_map _ _ (fun _ => rfl) xs
theorem noShR_Flow (xs : List Flow) : T.noShR (xs.map eFlow) = True := noShR_map _ (fun _ => by simp [eFlow, T.noShL, T.noSh]) xs
theorem roRows_Flow (xs : List Flow) : roRows (xs.map eFlow) = xs.map eFlow := roRows_map _ _ (fun _ => rfl) xs
theorem cpRows_Flow (d : Dep) (xs : List Flow) : cpRows d (xs.map eFlow) = True := cpRows_map _ (fun _ => by simp [eFlow, T.flat]) d xs
attribute [go_sem] getD_Flow shrR_Flow noShR_Flow roRows_Flow cpRows_Flow
theorem dropd_Flow : List.drop 5 dFlow = [] := rfl
theorem tm_Flow : tm dFlow = [.int .i64 0, .int .i64 0, .int .i64 0, .int .i64 0, .int .i64 0] := rfl
attribute [go_sem] dropd_Flow tm_Flow
structure Held where
  flow : Flow
  name : Int
  seen : Int
def eHeld (x : Held) : List T := [.int .i64 x.flow.from_, .int .i64 x.flow.to_, .int .i64 x.flow.proto, .int .i64 x.flow.fromP, .int .i64 x.flow.toP, .int .i64 x.name, .int .i64 x.seen]
def zHeld : Held := ⟨zFlow, 0, 0⟩
def dHeld : List T := eHeld zHeld
theorem getD_Held (xs : List Held) (i : Nat) : (xs.map eHeld).getD i dHeld = eHeld (xs.getD i zHeld) := getD_map_ ..
theorem shrR_Held (xs : List Held) : T.shrR (xs.map eHeld) = xs.map eHeld := T.shrR_map _ _ (fun _ => rfl) xs
theorem noShR_Held (xs : List Held) : T.noShR (xs.map eHeld) = True := noShR_map _ (fun _ => by simp [eHeld, T.noShL, T.noSh]) xs
theorem roRows_Held (xs : List Held) : roRows (xs.map eHeld) = xs.map eHeld := roRows_map _ _ (fun _ => rfl) xs
theorem cpRows_Held (d : Dep) (xs : List Held) : cpRows d (xs.map eHeld) = True := cpRows_map _ (fun _ => by simp [eHeld, T.flat]) d xs
attribute [go_sem] getD_Held shrR_Held noShR_Held roRows_Held cpRows_Held
theorem dropd_Held : List.drop 7 dHeld = [] := rfl
theorem tm_Held : tm dHeld = [.int .i64 0, .int .i64 0, .int .i64 0, .int .i64 0, .int .i64 0, .int .i64 0, .int .i64 0] := rfl
attribute [go_sem] dropd_Held tm_Held
def eLI_i64 (o : Bool) (n : List Int) : List T := [.sl o 1 (n.map eI_i64)]
def zLI_i64 : List Int := []
def dLI_i64 (o : Bool) : List T := eLI_i64 o zLI_i64
theorem getD_LI_i64 (o : Bool) (xs : List (List Int)) (i : Nat) : (xs.map (eLI_i64 o)).getD i (dLI_i64 o) = eLI_i64 o (xs.getD i zLI_i64) := getD_map_ ..
theorem shrR_LI_i64 (o : Bool) (xs : List (List Int)) : T.shrR (xs.map (eLI_i64 o)) = xs.map (eLI_i64 false) := T.shrR_map _ _ (fun x => by simp only [eLI_i64, T.shrL, T.shr, shrR_I_i64]) xs
theorem noShR_LI_i64 (xs : List (List Int)) : T.noShR (xs.map (eLI_i64 true)) = True := noShR_map _ (fun _ => by simp [eLI_i64, T.noShL, T.noSh, noShR_I_i64]) xs
theorem cpRows_LI_i64 (o : Bool) (xs : List (List Int)) : cpRows none (xs.map (eLI_i64 o)) = True := cpRowsN_map _ (fun _ => by simp [eLI_i64, T.solid]) xs
attribute [go_sem] getD_LI_i64 shrR_LI_i64 noShR_LI_i64 cpRows_LI_i64
theorem dropd_LI_i64 (o : Bool) : List.drop 1 (dLI_i64 o) = [] := rfl
theorem tm_LI_i64 : tm (dLI_i64 true) = [.sl true 1 []] := rfl
attribute [go_sem] dropd_LI_i64 tm_LI_i64
structure Mux where
  address : Int
  now : Int
  watch : Watch
  tables : List (List Int)
  cache : List Held
def eMux (o : Bool) (x : Mux) : List T := [.int .i64 x.address, .int .i64 x.now, .bool x.watch.ready, .int .i64 x.watch.config.version, .sl o 5 (x.watch.config.backends.map eBackend), .sl o 4 (x.watch.config.vips.map (eVip o)), .sl o 1 (x.tables.map (eLI_i64 o)), .sl o 7 (x.cache.map eHeld)]
def zMux : Mux := ⟨0, 0, zWatch, [], []⟩
def dMux (o : Bool) : List T := eMux o zMux
theorem getD_Mux (o : Bool) (xs : List Mux) (i : Nat) : (xs.map (eMux o)).getD i (dMux o) = eMux o (xs.getD i zMux) := getD_map_ ..
theorem shrR_Mux (o : Bool) (xs : List Mux) : T.shrR (xs.map (eMux o)) = xs.map (eMux false) := T.shrR_map _ _ (fun x => by simp only [eMux, T.shrL, T.shr, shrR_Backend, shrR_Held, shrR_LI_i64, shrR_Vip]) xs
theorem noShR_Mux (xs : List Mux) : T.noShR (xs.map (eMux true)) = True := noShR_map _ (fun _ => by simp [eMux, T.noShL, T.noSh, noShR_Backend, noShR_Held, noShR_LI_i64, noShR_Vip]) xs
theorem cpRows_Mux (o : Bool) (xs : List Mux) : cpRows none (xs.map (eMux o)) = True := cpRowsN_map _ (fun _ => by simp [eMux, T.solid]) xs
attribute [go_sem] getD_Mux shrR_Mux noShR_Mux cpRows_Mux
theorem dropd_Mux (o : Bool) : List.drop 8 (dMux o) = [] := rfl
theorem tm_Mux : tm (dMux true) = [.int .i64 0, .int .i64 0, .bool false, .int .i64 0, .sl true 5 [], .sl true 4 [], .sl true 1 [], .sl true 7 []] := rfl
attribute [go_sem] dropd_Mux tm_Mux
def qMux (x : Mux) : Prop := qWatch x.watch ∧ (x.tables.length ≤ 9223372036854775807 ∧ ∀ y ∈ x.tables, y.length ≤ 9223372036854775807) ∧ x.cache.length ≤ 9223372036854775807
structure MuxResult where
  code : Int
  why : Int
  name : Int
  out : List Int
  mux : Mux
def eMuxResult (o : Bool) (x : MuxResult) : List T := [.int .i64 x.code, .int .i64 x.why, .int .i64 x.name, .sl o 1 (x.out.map eI_u8), .int .i64 x.mux.address, .int .i64 x.mux.now, .bool x.mux.watch.ready, .int .i64 x.mux.watch.config.version, .sl o 5 (x.mux.watch.config.backends.map eBackend), .sl o 4 (x.mux.watch.config.vips.map (eVip o)), .sl o 1 (x.mux.tables.map (eLI_i64 o)), .sl o 7 (x.mux.cache.map eHeld)]
def zMuxResult : MuxResult := ⟨0, 0, 0, [], zMux⟩
def dMuxResult (o : Bool) : List T := eMuxResult o zMuxResult
theorem getD_MuxResult (o : Bool) (xs : List MuxResult) (i : Nat) : (xs.map (eMuxResult o)).getD i (dMuxResult o) = eMuxResult o (xs.getD i zMuxResult) := getD_map_ ..
theorem shrR_MuxResult (o : Bool) (xs : List MuxResult) : T.shrR (xs.map (eMuxResult o)) = xs.map (eMuxResult false) := T.shrR_map _ _ (fun x => by simp only [eMuxResult, T.shrL, T.shr, shrR_Backend, shrR_Held, shrR_I_u8, shrR_LI_i64, shrR_Vip]) xs
theorem noShR_MuxResult (xs : List MuxResult) : T.noShR (xs.map (eMuxResult true)) = True := noShR_map _ (fun _ => by simp [eMuxResult, T.noShL, T.noSh, noShR_Backend, noShR_Held, noShR_I_u8, noShR_LI_i64, noShR_Vip]) xs
theorem cpRows_MuxResult (o : Bool) (xs : List MuxResult) : cpRows none (xs.map (eMuxResult o)) = True := cpRowsN_map _ (fun _ => by simp [eMuxResult, T.solid]) xs
attribute [go_sem] getD_MuxResult shrR_MuxResult noShR_MuxResult cpRows_MuxResult
theorem dropd_MuxResult (o : Bool) : List.drop 12 (dMuxResult o) = [] := rfl
theorem tm_MuxResult : tm (dMuxResult true) = [.int .i64 0, .int .i64 0, .int .i64 0, .sl true 1 [], .int .i64 0, .int .i64 0, .bool false, .int .i64 0, .sl true 5 [], .sl true 4 [], .sl true 1 [], .sl true 7 []] := rfl
attribute [go_sem] dropd_MuxResult tm_MuxResult
def qMuxResult (x : MuxResult) : Prop := x.out.length ≤ 9223372036854775807 ∧ qMux x.mux
structure Fleet where
  agreed : List Entry
  muxes : List Mux
def eFleet (o : Bool) (x : Fleet) : List T := [.sl o 9 (x.agreed.map eEntry), .sl o 8 (x.muxes.map (eMux o))]
def zFleet : Fleet := ⟨[], []⟩
def dFleet (o : Bool) : List T := eFleet o zFleet
theorem getD_Fleet (o : Bool) (xs : List Fleet) (i : Nat) : (xs.map (eFleet o)).getD i (dFleet o) = eFleet o (xs.getD i zFleet) := getD_map_ ..
theorem shrR_Fleet (o : Bool) (xs : List Fleet) : T.shrR (xs.map (eFleet o)) = xs.map (eFleet false) := T.shrR_map _ _ (fun x => by simp only [eFleet, T.shrL, T.shr, shrR_Entry, shrR_Mux]) xs
theorem noShR_Fleet (xs : List Fleet) : T.noShR (xs.map (eFleet true)) = True := noShR_map _ (fun _ => by simp [eFleet, T.noShL, T.noSh, noShR_Entry, noShR_Mux]) xs
theorem cpRows_Fleet (o : Bool) (xs : List Fleet) : cpRows none (xs.map (eFleet o)) = True := cpRowsN_map _ (fun _ => by simp [eFleet, T.solid]) xs
attribute [go_sem] getD_Fleet shrR_Fleet noShR_Fleet cpRows_Fleet
theorem dropd_Fleet (o : Bool) : List.drop 2 (dFleet o) = [] := rfl
theorem tm_Fleet : tm (dFleet true) = [.sl true 9 [], .sl true 8 []] := rfl
attribute [go_sem] dropd_Fleet tm_Fleet
def qFleet (x : Fleet) : Prop := x.agreed.length ≤ 9223372036854775807 ∧ (x.muxes.length ≤ 9223372036854775807 ∧ ∀ y ∈ x.muxes, qMux y)
structure FleetResult where
  code : Int
  why : Int
  name : Int
  out : List Int
  fleet : Fleet
def eFleetResult (o : Bool) (x : FleetResult) : List T := [.int .i64 x.code, .int .i64 x.why, .int .i64 x.name, .sl o 1 (x.out.map eI_u8), .sl o 9 (x.fleet.agreed.map eEntry), .sl o 8 (x.fleet.muxes.map (eMux o))]
def zFleetResult : FleetResult := ⟨0, 0, 0, [], zFleet⟩
def dFleetResult (o : Bool) : List T := eFleetResult o zFleetResult
theorem getD_FleetResult (o : Bool) (xs : List FleetResult) (i : Nat) : (xs.map (eFleetResult o)).getD i (dFleetResult o) = eFleetResult o (xs.getD i zFleetResult) := getD_map_ ..
theorem shrR_FleetResult (o : Bool) (xs : List FleetResult) : T.shrR (xs.map (eFleetResult o)) = xs.map (eFleetResult false) := T.shrR_map _ _ (fun x => by simp only [eFleetResult, T.shrL, T.shr, shrR_Entry, shrR_I_u8, shrR_Mux]) xs
theorem noShR_FleetResult (xs : List FleetResult) : T.noShR (xs.map (eFleetResult true)) = True := noShR_map _ (fun _ => by simp [eFleetResult, T.noShL, T.noSh, noShR_Entry, noShR_I_u8, noShR_Mux]) xs
theorem cpRows_FleetResult (o : Bool) (xs : List FleetResult) : cpRows none (xs.map (eFleetResult o)) = True := cpRowsN_map _ (fun _ => by simp [eFleetResult, T.solid]) xs
attribute [go_sem] getD_FleetResult shrR_FleetResult noShR_FleetResult cpRows_FleetResult
theorem dropd_FleetResult (o : Bool) : List.drop 6 (dFleetResult o) = [] := rfl
theorem tm_FleetResult : tm (dFleetResult true) = [.int .i64 0, .int .i64 0, .int .i64 0, .sl true 1 [], .sl true 9 [], .sl true 8 []] := rfl
attribute [go_sem] dropd_FleetResult tm_FleetResult
def qFleetResult (x : FleetResult) : Prop := x.out.length ≤ 9223372036854775807 ∧ qFleet x.fleet
structure Packet where
  from_ : Int
  to_ : Int
  proto : Int
  fromP : Int
  toP : Int
  load : List Int
def ePacket (o : Bool) (x : Packet) : List T := [.int .i64 x.from_, .int .i64 x.to_, .int .i64 x.proto, .int .i64 x.fromP, .int .i64 x.toP, .sl o 1 (x.load.map eI_u8)]
def zPacket : Packet := ⟨0, 0, 0, 0, 0, []⟩
def dPacket (o : Bool) : List T := ePacket o zPacket
theorem getD_Packet (o : Bool) (xs : List Packet) (i : Nat) : (xs.map (ePacket o)).getD i (dPacket o) = ePacket o (xs.getD i zPacket) := getD_map_ ..
theorem shrR_Packet (o : Bool) (xs : List Packet) : T.shrR (xs.map (ePacket o)) = xs.map (ePacket false) := T.shrR_map _ _ (fun x => by simp only [ePacket, T.shrL, T.shr, shrR_I_u8]) xs
theorem noShR_Packet (xs : List Packet) : T.noShR (xs.map (ePacket true)) = True := noShR_map _ (fun _ => by simp [ePacket, T.noShL, T.noSh, noShR_I_u8]) xs
theorem cpRows_Packet (o : Bool) (xs : List Packet) : cpRows none (xs.map (ePacket o)) = True := cpRowsN_map _ (fun _ => by simp [ePacket, T.solid]) xs
attribute [go_sem] getD_Packet shrR_Packet noShR_Packet cpRows_Packet
theorem dropd_Packet (o : Bool) : List.drop 6 (dPacket o) = [] := rfl
theorem tm_Packet : tm (dPacket true) = [.int .i64 0, .int .i64 0, .int .i64 0, .int .i64 0, .int .i64 0, .sl true 1 []] := rfl
attribute [go_sem] dropd_Packet tm_Packet
def qPacket (x : Packet) : Prop := x.load.length ≤ 9223372036854775807
structure PacketResult where
  code : Int
  packet : Packet
def ePacketResult (o : Bool) (x : PacketResult) : List T := [.int .i64 x.code, .int .i64 x.packet.from_, .int .i64 x.packet.to_, .int .i64 x.packet.proto, .int .i64 x.packet.fromP, .int .i64 x.packet.toP, .sl o 1 (x.packet.load.map eI_u8)]
def zPacketResult : PacketResult := ⟨0, zPacket⟩
def dPacketResult (o : Bool) : List T := ePacketResult o zPacketResult
theorem getD_PacketResult (o : Bool) (xs : List PacketResult) (i : Nat) : (xs.map (ePacketResult o)).getD i (dPacketResult o) = ePacketResult o (xs.getD i zPacketResult) := getD_map_ ..
theorem shrR_PacketResult (o : Bool) (xs : List PacketResult) : T.shrR (xs.map (ePacketResult o)) = xs.map (ePacketResult false) := T.shrR_map _ _ (fun x => by simp only [ePacketResult, T.shrL, T.shr, shrR_I_u8]) xs
theorem noShR_PacketResult (xs : List PacketResult) : T.noShR (xs.map (ePacketResult true)) = True := noShR_map _ (fun _ => by simp [ePacketResult, T.noShL, T.noSh, noShR_I_u8]) xs
theorem cpRows_PacketResult (o : Bool) (xs : List PacketResult) : cpRows none (xs.map (ePacketResult o)) = True := cpRowsN_map _ (fun _ => by simp [ePacketResult, T.solid]) xs
attribute [go_sem] getD_PacketResult shrR_PacketResult noShR_PacketResult cpRows_PacketResult
theorem dropd_PacketResult (o : Bool) : List.drop 7 (dPacketResult o) = [] := rfl
theorem tm_PacketResult : tm (dPacketResult true) = [.int .i64 0, .int .i64 0, .int .i64 0, .int .i64 0, .int .i64 0, .int .i64 0, .sl true 1 []] := rfl
attribute [go_sem] dropd_PacketResult tm_PacketResult
def qPacketResult (x : PacketResult) : Prop := qPacket x.packet
structure IntResult where
  code : Int
  value : Int
def eIntResult (x : IntResult) : List T := [.int .i64 x.code, .int .i64 x.value]
def zIntResult : IntResult := ⟨0, 0⟩
def dIntResult : List T := eIntResult zIntResult
theorem getD_IntResult (xs : List IntResult) (i : Nat) : (xs.map eIntResult).getD i dIntResult = eIntResult (xs.getD i zIntResult) := getD_map_ ..
theorem shrR_IntResult (xs : List IntResult) : T.shrR (xs.map eIntResult) = xs.map eIntResult := T.shrR_map _ _ (fun _ => rfl) xs
theorem noShR_IntResult (xs : List IntResult) : T.noShR (xs.map eIntResult) = True := noShR_map _ (fun _ => by simp [eIntResult, T.noShL, T.noSh]) xs
theorem roRows_IntResult (xs : List IntResult) : roRows (xs.map eIntResult) = xs.map eIntResult := roRows_map _ _ (fun _ => rfl) xs
theorem cpRows_IntResult (d : Dep) (xs : List IntResult) : cpRows d (xs.map eIntResult) = True := cpRows_map _ (fun _ => by simp [eIntResult, T.flat]) d xs
attribute [go_sem] getD_IntResult shrR_IntResult noShR_IntResult roRows_IntResult cpRows_IntResult
theorem dropd_IntResult : List.drop 2 dIntResult = [] := rfl
theorem tm_IntResult : tm dIntResult = [.int .i64 0, .int .i64 0] := rfl
attribute [go_sem] dropd_IntResult tm_IntResult
attribute [go_sem] eI_i64 eConfig eBackend eVip eConfigResult eCmd eMachine eSession eMachineResult eEntry eUpdate eUpdateResult eWatch eWatchResult eI_u8 eShare eFlow eHeld eMux eLI_i64 eMuxResult eFleet eFleetResult ePacket ePacketResult eIntResult
end Go.H
end
section
set_option linter.unusedVariables false
namespace Go.H
open Go
attribute [go_sem] V.scalar TV.noSh T.noSh T.noShL Ob.noSh V.zT liveV liveL verM capM TV.noShs Ob.noShs T.shr T.shrL roCs roC T.isOwn liveD List.take_length List.drop_zero List.take_zero List.map_nil
attribute [go_sem] decide_false Bool.or_false Bool.true_or Bool.or_true Bool.false_or Bool.and_false Int.natCast_add Int.natCast_one Int.cast_ofNat_Int Nat.add_zero
attribute [go_sem] List.length_map Int.toNat_natCast List.length_append List.length_take List.length_drop List.take_take Nat.min_self List.length_cons List.length_nil List.length_set List.length_replicate
theorem take_map' {α β : Type} (f : α → β) (l : List α) (i : Nat) : (l.map f).take i = (l.take i).map f := List.map_take.symm
theorem drop_map' {α β : Type} (f : α → β) (l : List α) (i : Nat) : (l.map f).drop i = (l.drop i).map f := List.map_drop.symm
theorem app_map' {α β : Type} (f : α → β) (l m : List α) : l.map f ++ m.map f = (l ++ m).map f := List.map_append.symm
attribute [go_sem] take_map' drop_map' app_map'
attribute [go_sem] reduceCtorEq Nat.reduceMod Nat.reduceEqDiff Nat.reduceAdd Nat.reduceMul Nat.reduceLeDiff Nat.reduceLT
theorem take_succ_map {α β : Type} (f : α → β) (d : α) {xs : List α} {i : Nat} (h : i < xs.length) : (xs.take (i + 1)).map f = (xs.take i).map f ++ [f (xs.getD i d)] := by
  rw [List.take_add_one, List.map_append, List.getD_eq_getElem?_getD, List.getElem?_eq_getElem h]
  rfl
def inR (a b c : Int) : Bool := decide (b ≤ a) && decide (a ≤ c)
attribute [go_sem] eqVL eqV
attribute [go_sem] T.noShR T.shrL T.shrR roCs roC cVcL Bool.cond_true_left Bool.cond_false_left Bool.cond_true_right Bool.not_eq_true' beq_false obM lkey obOk bne_self_eq_false beq_self_eq_true Bool.not_false ne_eq not_true_eq_false not_false_eq_true eq_self decide_not Bool.not_true
def aS (l : List T) : Arg := .agg (l.map C.t)
def aT (t : T) : Arg := .one (.t t)
def aI (n : Int) : Arg := .one (.t (.int .i64 n))
def rI (n : Int) : TV := .one (.int .i64 n)
def rB (b : Bool) : TV := .one (.bool b)
attribute [go_sem] aS aT aI rI rB okI
theorem drop_getD {α : Type} (d : α) {xs : List α} {i : Nat} (h : i < xs.length) : xs.drop i = xs.getD i d :: xs.drop (i + 1) := by
  rw [List.drop_eq_getElem_cons h, List.getD_eq_getElem?_getD, List.getElem?_eq_getElem h]
  rfl
theorem getD_set_self {α : Type} {l : List α} {i : Nat} (h : i < l.length) (r d : α) : (l.set i r).getD i d = r := by
  rw [List.getD_eq_getElem?_getD, List.getElem?_set_self h]
  rfl
theorem all_getD {α : Type} (d : α) {xs : List α} {p : α → Prop} : (∀ i < xs.length, p (xs.getD i d)) ↔ ∀ x ∈ xs, p x := by
  constructor
  · intro h x hx
    obtain ⟨i, hi, rfl⟩ := List.getElem_of_mem hx
    have := h i hi
    rwa [List.getD_eq_getElem?_getD, List.getElem?_eq_getElem hi] at this
  · intro h i hi
    rw [List.getD_eq_getElem?_getD, List.getElem?_eq_getElem hi]
    exact h _ (List.getElem_mem hi)
theorem getD_bld {α : Type} {l : List α} {n i : Nat} {d : α} (h : l.length = i) : (l ++ List.replicate n d).getD i d = d := by
  rw [List.getD_eq_getElem?_getD, List.getElem?_append_right (by omega)]
  cases h2 : (List.replicate n d)[i - l.length]? with
  | none => rfl
  | some x => exact List.eq_of_mem_replicate (List.mem_of_getElem? h2)
theorem bld_step {α : Type} (f : α → List T) (z : α) (d : List T) {xs : List α} {i : Nat} (h : i < xs.length) : ((xs.take i).map f ++ List.replicate (xs.length - i) d).set i (f (xs.getD i z)) = (xs.take (i + 1)).map f ++ List.replicate (xs.length - (i + 1)) d := by
  rw [take_succ_map f z h]
  have e : xs.length - i = (xs.length - (i + 1)) + 1 := by omega
  have hl : ((xs.take i).map f).length = i := by simp; omega
  rw [e, List.replicate_succ, List.set_append_right _ _ (by omega), hl, Nat.sub_self, List.set_cons_zero, List.append_assoc]
  rfl
attribute [go_sem] Nat.sub_self
def mkL {α : Type} (m : α → Int → α) (s : α → Int → Int) : List α → Int → List α
  | [], _ => []
  | x :: xs, k => m x k :: mkL m s xs (s x k)
def mkK {α : Type} (s : α → Int → Int) : List α → Int → Int
  | [], k => k
  | x :: xs, k => mkK s xs (s x k)
theorem mkL_length {α : Type} (m : α → Int → α) (s : α → Int → Int) : ∀ (xs : List α) (k : Int), (mkL m s xs k).length = xs.length
  | [], _ => rfl
  | x :: xs, k => by simp [mkL, mkL_length m s xs]
theorem mkL_snoc {α : Type} (m : α → Int → α) (s : α → Int → Int) (y : α) : ∀ (xs : List α) (k : Int), mkL m s (xs ++ [y]) k = mkL m s xs k ++ [m y (mkK s xs k)]
  | [], _ => rfl
  | x :: xs, k => by simp [mkL, mkK, mkL_snoc m s y xs]
theorem mkK_snoc {α : Type} (s : α → Int → Int) (y : α) : ∀ (xs : List α) (k : Int), mkK s (xs ++ [y]) k = s y (mkK s xs k)
  | [], _ => rfl
  | x :: xs, k => by simp [mkK, mkK_snoc s y xs]
theorem take_snoc {α : Type} (z : α) {xs : List α} {i : Nat} (h : i < xs.length) : xs.take (i + 1) = xs.take i ++ [xs.getD i z] := by
  rw [List.take_add_one, List.getD_eq_getElem?_getD, List.getElem?_eq_getElem h]
  rfl
theorem mkK_succ {α : Type} (s : α → Int → Int) (z : α) {xs : List α} {i : Nat} (h : i < xs.length) (k : Int) : mkK s (xs.take (i + 1)) k = s (xs.getD i z) (mkK s (xs.take i) k) := by
  rw [take_snoc z h, mkK_snoc]
theorem mk_step {α : Type} (f : α → List T) (m : α → Int → α) (s : α → Int → Int) (z : α) {xs : List α} {i : Nat} (h : i < xs.length) (k : Int) :
    ((mkL m s (xs.take i) k ++ xs.drop i).map f).set i (f (m (xs.getD i z) (mkK s (xs.take i) k))) = (mkL m s (xs.take (i + 1)) k ++ xs.drop (i + 1)).map f := by
  rw [take_snoc z h, mkL_snoc, drop_getD z h]
  have hl : (mkL m s (xs.take i) k).length = i := by rw [mkL_length]; simp; omega
  have e : ∀ y r, ((mkL m s (xs.take i) k ++ y :: r).map f).set i (f (m (xs.getD i z) (mkK s (xs.take i) k))) = (mkL m s (xs.take i) k ++ (m (xs.getD i z) (mkK s (xs.take i) k)) :: r).map f := by
    intro y r
    rw [List.map_append, List.set_append_right _ _ (by rw [List.length_map]; omega), List.length_map, hl, Nat.sub_self, List.map_cons, List.set_cons_zero, List.map_append, List.map_cons]
  rw [e, List.append_assoc]
  rfl
theorem mkL_getD {α : Type} (m : α → Int → α) (s : α → Int → Int) (z : α) : ∀ {xs : List α} {i : Nat} (k : Int), i < xs.length → (mkL m s xs k).getD i z = m (xs.getD i z) (mkK s (xs.take i) k)
  | [], i, k, h => by simp at h
  | x :: xs, 0, k, h => rfl
  | x :: xs, i + 1, k, h => by
    have := mkL_getD m s z (xs := xs) (i := i) (s x k) (by simpa using h)
    simpa only [mkL, List.getD_cons_succ, List.take_succ_cons, mkK] using this
theorem mk_getD {α : Type} (m : α → Int → α) (s : α → Int → Int) (z : α) {xs : List α} {i : Nat} (k : Int) (h : i < xs.length) : (mkL m s (xs.take i) k ++ xs.drop i).getD i z = xs.getD i z := by
  have hl : (mkL m s (xs.take i) k).length = i := by rw [mkL_length]; simp; omega
  rw [List.getD_eq_getElem?_getD, List.getElem?_append_right (by omega), hl, Nat.sub_self, drop_getD z h]
  rfl
theorem mkK_mono {α : Type} {s : α → Int → Int} (hs : ∀ x k, k ≤ s x k) : ∀ (xs : List α) (k : Int), k ≤ mkK s xs k
  | [], k => Int.le_refl k
  | x :: xs, k => Int.le_trans (hs x k) (mkK_mono hs xs _)
theorem mkK_app {α : Type} {s : α → Int → Int} : ∀ (xs ys : List α) (k : Int), mkK s (xs ++ ys) k = mkK s ys (mkK s xs k)
  | [], _, _ => rfl
  | x :: xs, ys, k => by simp [mkK, mkK_app xs ys]
theorem mkK_take {α : Type} {s : α → Int → Int} (hs : ∀ x k, k ≤ s x k) (xs : List α) (i : Nat) (k : Int) : mkK s (xs.take i) k ≤ mkK s xs k := by
  conv => rhs; rw [← List.take_append_drop i xs, mkK_app]
  exact mkK_mono hs _ _
theorem mkK_at {α : Type} {s : α → Int → Int} (hs : ∀ x k, k ≤ s x k) (z : α) {xs : List α} {i : Nat} (h : i < xs.length) {k b : Int} (hb : mkK s xs k ≤ b) : k ≤ mkK s (xs.take i) k ∧ s (xs.getD i z) (mkK s (xs.take i) k) ≤ b := by
  rw [← mkK_succ s z h]
  exact ⟨mkK_mono hs _ _, Int.le_trans (mkK_take hs _ _ _) hb⟩
theorem mkK_bd {α : Type} {s : α → Int → Int} {c : Int} (hc : 0 ≤ c) : ∀ {xs : List α} {k : Int}, (∀ x ∈ xs, ∀ k, s x k ≤ k + c) → mkK s xs k ≤ k + c * xs.length
  | [], k, h => by simp [mkK]
  | x :: xs, k, h => by
    have h1 := h x (by simp) k
    have h2 := mkK_bd hc (xs := xs) (k := s x k) fun y hy => h y (by simp [hy])
    simp only [mkK, List.length_cons]
    rw [show c * ((xs.length + 1 : Nat) : Int) = c * xs.length + c by rw [Int.natCast_add, Int.mul_add]; simp]
    omega
theorem arr_eq {sz v v' : Nat} {c : Option Nat} {r r' : List (List T)} (h1 : r = r') (h2 : v = v') : some (Mem.arr ⟨sz, r, v, c⟩) = some (Mem.arr ⟨sz, r', v', c⟩) := by rw [h1, h2]
theorem int_eq {k : IntKind} {a b : Int} (h : a = b) : some (V.int k a) = some (V.int k b) := by rw [h]
theorem getD_mem {α : Type} (z : α) {xs : List α} {i : Nat} (h : i < xs.length) : xs.getD i z ∈ xs := by
  rw [List.getD_eq_getElem?_getD, List.getElem?_eq_getElem h]
  exact List.getElem_mem h
theorem toNat_sub1 (n : Nat) : ((n : Int) - 1).toNat = n - 1 := by omega
theorem toNat_add1 (n : Nat) : ((n : Int) + 1).toNat = n + 1 := by omega
attribute [go_sem] toNat_sub1 toNat_add1 Int.add_sub_cancel
theorem take_snoc_map {α : Type} (f : α → List T) (xs : List α) (r : List T) : List.take (xs.length + 1) (xs.map f ++ [r]) = xs.map f ++ [r] := List.take_of_length_le (by simp)
theorem take_app_map {α : Type} (f : α → List T) (xs ys : List α) : List.take (xs.length + ys.length) ((xs ++ ys).map f) = (xs ++ ys).map f := List.take_of_length_le (by simp)
theorem take_set_map {α : Type} (f : α → List T) (xs : List α) (n : Nat) (r : List T) : List.take xs.length ((xs.map f).set n r) = (xs.map f).set n r := List.take_of_length_le (by simp)
theorem noShR_set : ∀ {l : List (List T)} {n : Nat} {r : List T}, T.noShR l → T.noShL r → T.noShR (l.set n r)
  | [], _, _, _, _ => by simp [T.noShR]
  | a :: l, 0, r, h, hr => by simp only [List.set_cons_zero, T.noShR] at h ⊢; exact ⟨hr, h.2⟩
  | a :: l, n + 1, r, h, hr => by simp only [List.set_cons_succ, T.noShR] at h ⊢; exact ⟨h.1, noShR_set h.2 hr⟩
theorem noShR_append : ∀ (l l2 : List (List T)), T.noShR (l ++ l2) = (T.noShR l ∧ T.noShR l2)
  | [], l2 => by simp [T.noShR]
  | a :: l, l2 => by simp only [List.cons_append, T.noShR, noShR_append l l2, and_assoc]
theorem getD_set_app {α : Type} {l : List α} {i : Nat} (h : i < l.length) (r : α) (l2 : List α) (d : α) : (l.set i r ++ l2).getD i d = r := by
  rw [List.getD_eq_getElem?_getD, List.getElem?_append_left (by simpa using h), List.getElem?_set_self h]
  rfl
theorem set_app {α : Type} {l : List α} {i : Nat} (h : i < l.length) (r r2 : α) (l2 : List α) : (l.set i r ++ l2).set i r2 = l.set i r2 ++ l2 := by
  rw [List.set_append_left _ _ (by simpa using h), List.set_set]
theorem set_getD_map {α : Type} (f : α → List T) (z : α) {xs : List α} {i : Nat} (h : i < xs.length) : (xs.map f).set i (f (xs.getD i z)) = xs.map f := by
  rw [List.getD_eq_getElem?_getD, List.getElem?_eq_getElem h]
  apply List.ext_getElem
  · simp
  · intro j h1 h2
    rw [List.getElem_set]
    split
    · rename_i e; subst e; simp
    · rfl
attribute [go_sem] take_snoc_map take_app_map take_set_map noShR_append
attribute [go_sem] T.own T.ownL
theorem take_set_len {α : Type} (l : List α) (n : Nat) (v : α) : List.take l.length (l.set n v) = l.set n v := List.take_of_length_le (by simp)
attribute [go_sem] take_set_len
theorem take_drop_take {α : Type} (l : List α) (a k : Nat) : List.take (a - k) (List.drop k (List.take a l)) = List.drop k (List.take a l) := List.take_of_length_le (by simp; omega)
attribute [go_sem] mnxI take_drop_take isZ bnd
theorem toNat0 : Int.toNat 0 = 0 := rfl
theorem toNat_subN (a b : Nat) : ((a : Int) - (b : Int)).toNat = a - b := by omega
theorem toNat_addN (a b : Nat) : ((a : Int) + (b : Int)).toNat = a + b := by omega
theorem toNat_subNN (a b c : Nat) : ((a : Int) - ((b : Int) + (c : Int))).toNat = a - (b + c) := by omega
theorem toNat_addNN (a b c : Nat) : ((a : Int) + (b : Int) + (c : Int)).toNat = a + b + c := by omega
attribute [go_sem] toNat0 toNat_subN toNat_addN toNat_subNN toNat_addNN Int.sub_zero Int.add_zero Int.zero_add
theorem junk_drop {α : Type} (J : List T) (f : α → List T) (xs : List α) (n : Nat) : List.drop (n + 1) (List.replicate n J ++ List.map f (List.drop n xs)) = List.map f (List.drop (n + 1) xs) := by
  rw [List.drop_append, List.drop_of_length_le (by simp), List.nil_append, List.length_replicate, ← List.map_drop, List.drop_drop]
  congr 2
  omega
theorem take_drop_len {α : Type} (xs : List α) (k : Nat) : List.take (xs.length - k) (List.drop k xs) = List.drop k xs := List.take_of_length_le (by simp)
attribute [go_sem] junk_drop take_drop_len
theorem toNat_sub1N (a b : Nat) : ((a : Int) - ((b : Int) + 1)).toNat = a - (b + 1) := by omega
attribute [go_sem] toNat_sub1N false_and and_false Int.one_mul
theorem wrap_small {n : Int} (h1 : -9223372036854775808 ≤ n) (h2 : n ≤ 9223372036854775807) : IntKind.wrap .i64 n = n := okI_wrap (k := .i64) ⟨h1, h2⟩
def idxG {α : Type} (q : α → Bool) : List α → Int
  | [] => -1
  | x :: xs => if q x = true then 0 else if idxG q xs < 0 then -1 else idxG q xs + 1
theorem idxG_none {α : Type} (z : α) {q : α → Bool} : ∀ {xs : List α}, (∀ j, j < xs.length → q (xs.getD j z) = false) → idxG q xs = -1
  | [], _ => rfl
  | x :: xs, h => by
    have h0 := h 0 (by simp)
    simp only [List.getD_cons_zero] at h0
    have ih := idxG_none z (q := q) (xs := xs) (fun j hj => by have := h (j + 1) (by simpa using hj); simpa only [List.getD_cons_succ] using this)
    rw [idxG, if_neg (by rw [h0]; simp), ih, if_pos (by omega)]
theorem idxG_some {α : Type} (z : α) {q : α → Bool} : ∀ {xs : List α} {i : Nat}, i < xs.length → (∀ j, j < i → q (xs.getD j z) = false) → q (xs.getD i z) = true → idxG q xs = i
  | [], _, h, _, _ => by simp at h
  | x :: xs, 0, _, _, hq => by
    simp only [List.getD_cons_zero] at hq
    rw [idxG, if_pos hq]
    rfl
  | x :: xs, i + 1, hi, h, hq => by
    have h0 := h 0 (by omega)
    simp only [List.getD_cons_zero] at h0
    have ih := idxG_some z (q := q) (xs := xs) (i := i) (by simpa using hi) (fun j hj => by have := h (j + 1) (by omega); simpa only [List.getD_cons_succ] using this) (by simpa only [List.getD_cons_succ] using hq)
    rw [idxG, if_neg (by rw [h0]; simp), ih, if_neg (by omega)]
    omega
theorem idxG_cases {α : Type} (z : α) (q : α → Bool) : ∀ (xs : List α), (idxG q xs = -1 ∧ ∀ j, j < xs.length → q (xs.getD j z) = false) ∨ ∃ i : Nat, idxG q xs = i ∧ i < xs.length ∧ q (xs.getD i z) = true ∧ ∀ j, j < i → q (xs.getD j z) = false
  | [] => .inl ⟨rfl, fun j h => by simp at h⟩
  | x :: xs => by
    cases hx : q x with
    | true => exact .inr ⟨0, by rw [idxG, if_pos hx]; rfl, by simp, by simpa using hx, fun j h => by omega⟩
    | false =>
      rcases idxG_cases z q xs with ⟨h1, h2⟩ | ⟨i, h1, h2, h3, h4⟩
      · refine .inl ⟨by rw [idxG, if_neg (by rw [hx]; simp), if_pos (by omega)], fun j hj => ?_⟩
        cases j with
        | zero => simpa using hx
        | succ j => simpa using h2 j (by simpa using hj)
      · refine .inr ⟨i + 1, by rw [idxG, if_neg (by rw [hx]; simp), if_neg (by omega)]; omega, by simpa using h2, by simpa using h3, fun j hj => ?_⟩
        cases j with
        | zero => simpa using hx
        | succ j => simpa using h4 j (by omega)
theorem idxG_lt {α : Type} (z : α) {q : α → Bool} {xs : List α} (h : ¬ idxG q xs < 0) : ∃ i : Nat, idxG q xs = i ∧ i < xs.length ∧ q (xs.getD i z) = true ∧ ∀ j, j < i → q (xs.getD j z) = false := by
  rcases idxG_cases z q xs with ⟨h1, _⟩ | h1
  · omega
  · exact h1
theorem idxG_neg {α : Type} (z : α) {q : α → Bool} {xs : List α} (h : idxG q xs < 0) : idxG q xs = -1 ∧ ∀ j, j < xs.length → q (xs.getD j z) = false := by
  rcases idxG_cases z q xs with h1 | ⟨i, h1, _⟩
  · exact h1
  · omega
theorem idxG_ge {α : Type} (q : α → Bool) : ∀ (xs : List α), -1 ≤ idxG q xs
  | [] => by simp [idxG]
  | x :: xs => by
    have := idxG_ge q xs
    rw [idxG]
    split
    · omega
    · split <;> omega
def hasG {α : Type} (q : α → Bool) (xs : List α) : Bool := decide (0 ≤ idxG q xs)
theorem hasG_false {α : Type} (z : α) {q : α → Bool} {xs : List α} (h : ∀ j, j < xs.length → q (xs.getD j z) = false) : hasG q xs = false := by
  simp [hasG, idxG_none z h]
theorem hasG_true {α : Type} (z : α) {q : α → Bool} {xs : List α} {i : Nat} (hi : i < xs.length) (h : q (xs.getD i z) = true) : hasG q xs = true := by
  rcases idxG_cases z q xs with ⟨_, h2⟩ | ⟨j, h1, _⟩
  · rw [h2 i hi] at h; cases h
  · simp [hasG, h1]
def preG {α : Type} (p : α → Bool) (xs : List α) : Nat := (xs.takeWhile p).length
theorem preG_le {α : Type} (p : α → Bool) (xs : List α) : preG p xs ≤ xs.length := (List.takeWhile_sublist _).length_le
theorem preG_eq {α : Type} (z : α) {p : α → Bool} : ∀ {xs : List α} {i : Nat}, i ≤ xs.length → (∀ q, q < i → p (xs.getD q z) = true) → (i < xs.length → p (xs.getD i z) = false) → preG p xs = i
  | [], i, h, _, _ => by simp at h; subst h; rfl
  | x :: xs, 0, h, _, h2 => by
    have := h2 (by simp)
    simp only [List.getD_cons_zero] at this
    unfold preG
    rw [List.takeWhile_cons_of_neg (by rw [this]; simp)]
    rfl
  | x :: xs, i + 1, h, h1, h2 => by
    have h0 := h1 0 (by omega)
    simp only [List.getD_cons_zero] at h0
    have ih := preG_eq z (p := p) (xs := xs) (i := i) (by simpa using h) (fun q hq => by simpa only [List.getD_cons_succ] using h1 (q + 1) (by omega)) (fun hi => by simpa only [List.getD_cons_succ] using h2 (by simpa using hi))
    unfold preG at ih ⊢
    rw [List.takeWhile_cons_of_pos h0, List.length_cons, ih]
theorem preG_lt {α : Type} (z : α) {p : α → Bool} : ∀ {xs : List α} {i : Nat}, i < preG p xs → p (xs.getD i z) = true
  | [], i, h => by simp [preG] at h
  | x :: xs, i, h => by
    unfold preG at h
    cases hx : p x with
    | false => rw [List.takeWhile_cons_of_neg (by rw [hx]; simp)] at h; simp at h
    | true =>
      rw [List.takeWhile_cons_of_pos hx] at h
      cases i with
      | zero => simpa using hx
      | succ i => simpa using preG_lt z (p := p) (xs := xs) (i := i) (by simpa [preG] using h)
theorem preG_at {α : Type} (z : α) {p : α → Bool} : ∀ {xs : List α}, preG p xs < xs.length → p (xs.getD (preG p xs) z) = false
  | [], h => by simp at h
  | x :: xs, h => by
    unfold preG at h ⊢
    cases hx : p x with
    | false => rw [List.takeWhile_cons_of_neg (by rw [hx]; simp)]; simpa using hx
    | true =>
      rw [List.takeWhile_cons_of_pos hx] at h ⊢
      simp only [List.length_cons, List.getD_cons_succ]
      exact preG_at z (p := p) (xs := xs) (by simpa [preG] using h)
def putG {α : Type} (p : α → Bool) (xs : List α) (b : α) : List α := xs.take (preG p xs) ++ [b] ++ xs.drop (preG p xs)
def cutG {α : Type} (xs : List α) (i : Nat) : List α := xs.take i ++ xs.drop (i + 1)
def lbn (xs : List Int) (v : Int) : Nat := (xs.takeWhile fun x => decide (x < v)).length
def rises (xs : List Int) : Prop := ∀ i, 0 < i → i < xs.length → xs.getD (i - 1) zI_i64 < xs.getD i zI_i64
def isNum (x : Cmd) : Bool := if x.kind = 1 ∨ x.kind = 2 then inR x.number 0 9 else if x.kind = 3 then inR x.number 1 3 else if x.kind = 9 then inR x.number 0 1 else inR x.number 0 65535
def isPro (n : Int) : Bool := decide (n = 6) || decide (n = 17)
def nd1 (k : Int) : Bool := !inR k 5 6
def nd2 (k : Int) : Bool := decide (k = 1) || inR k 5 8
def nd3 (k : Int) : Bool := !decide (k = 4)
def nd4 (k : Int) : Bool := inR k 5 8
def cmdFault (x : Cmd) : Int :=
  if !inR x.kind 1 9 then 1 else
  if !inR x.expect (-1) 1000000 || (nd1 x.kind && !inR x.name 1 999) || (nd2 x.kind && !inR x.addr 0 4294967295) || (nd3 x.kind && !isNum x) || (nd4 x.kind && !isPro x.proto) then 3 else
  if (!nd1 x.kind && decide (x.name ≠ 0)) || (!nd2 x.kind && decide (x.addr ≠ 0)) || (!nd3 x.kind && decide (x.number ≠ 0)) || (!nd4 x.kind && decide (x.proto ≠ 0)) then 1 else 0
theorem exp_eq (n : Int) : (!decide (n = -1) && !inR n 0 1000000) = !inR n (-1) 1000000 := by
  rw [Bool.eq_iff_iff]
  simp [inR]
  omega
def scanN (f : Nat → Int) : Nat → Nat → Int
  | 0, _ => 0
  | n + 1, i => if f i = 0 then scanN f n (i + 1) else f i
def scan (f : Nat → Int) (n i : Nat) : Int := scanN f (n - i) i
theorem scan_lt {f : Nat → Int} {n i : Nat} (h : i < n) : scan f n i = if f i = 0 then scan f n (i + 1) else f i := by
  unfold scan
  rw [show n - i = (n - (i + 1)) + 1 by omega]
  rfl
theorem scan_ge {f : Nat → Int} {n i : Nat} (h : n ≤ i) : scan f n i = 0 := by
  unfold scan
  rw [show n - i = 0 by omega]
  rfl
theorem scanN_zero {f : Nat → Int} : ∀ {n i : Nat}, scanN f n i = 0 ↔ ∀ j, j < n → f (i + j) = 0
  | 0, i => by simp [scanN]
  | n + 1, i => by
    simp only [scanN]
    constructor
    · intro h j hj
      split at h
      · rename_i h0
        rcases j with _ | j
        · exact h0
        · have := scanN_zero.1 h j (by omega)
          rw [show i + (j + 1) = i + 1 + j by omega]
          exact this
      · rename_i h0; exact absurd h h0
    · intro h
      have h0 := h 0 (by omega)
      rw [Nat.add_zero] at h0
      rw [if_pos h0]
      refine scanN_zero.2 fun j hj => ?_
      rw [show i + 1 + j = i + (j + 1) by omega]
      exact h (j + 1) (by omega)
theorem scan_zero {f : Nat → Int} {n i : Nat} : scan f n i = 0 ↔ ∀ j, i ≤ j → j < n → f j = 0 := by
  unfold scan
  rw [scanN_zero]
  constructor
  · intro h j h1 h2
    have := h (j - i) (by omega)
    rwa [show i + (j - i) = j by omega] at this
  · intro h j hj
    exact h (i + j) (by omega) (by omega)
def isBk (b : Backend) : Bool := inR b.name 1 999 && inR b.address 0 4294967295 && inR b.weight 0 9 && inR b.stage 1 3
def isVp (v : Vip) : Bool := inR v.address 0 4294967295 && inR v.port 0 65535 && isPro v.proto
def isB (n : Int) (b : Backend) : Bool := decide (b.name = n)
def findB (xs : List Backend) (n : Int) : Int := idxG (isB n) xs
def behV (a b : Vip) : Bool := if a.address ≠ b.address then decide (a.address < b.address) else if a.port ≠ b.port then decide (a.port < b.port) else decide (a.proto < b.proto)
def cmpI (a b : Int) : Int := if a < b then -1 else if b < a then 1 else 0
def cmpV (a b : Vip) : Int := if cmpI a.address b.address ≠ 0 then cmpI a.address b.address else if cmpI a.port b.port ≠ 0 then cmpI a.port b.port else cmpI a.proto b.proto
def cmpB (a b : Backend) : Int := cmpI a.name b.name
theorem cmpV_lt (a b : Vip) : decide (cmpV a b < 0) = behV a b := by
  unfold cmpV behV cmpI
  rw [Bool.eq_iff_iff]
  grind
theorem cmpV_ge (a b : Vip) : decide (0 ≤ cmpV a b) = !behV a b := by
  rw [← cmpV_lt, Bool.eq_iff_iff]
  simp
theorem cmpB_lt (a b : Backend) : cmpB a b < 0 ↔ a.name < b.name := by
  unfold cmpB cmpI
  grind
def bkBad (xs : List Backend) (i : Nat) : Int :=
  if isBk (xs.getD i zBackend) = false then 3 else if 0 < i ∧ (xs.getD i zBackend).name ≤ (xs.getD (i - 1) zBackend).name then 1 else 0
def noB (bs : List Backend) (n : Int) : Bool := decide (findB bs n < 0)
def nmBad (v : Vip) (i : Nat) : Int := if v.names.getD i zI_i64 ≤ v.names.getD (i - 1) zI_i64 then 1 else 0
def vipBad (c : Config) (i : Nat) : Int :=
  if isVp (c.vips.getD i zVip) = false then 3 else
  if 0 < i ∧ behV (c.vips.getD (i - 1) zVip) (c.vips.getD i zVip) = false then 1 else
  if hasG (noB c.backends) (c.vips.getD i zVip).names = true then 4 else scan (nmBad (c.vips.getD i zVip)) (c.vips.getD i zVip).names.length 1
def configFault (c : Config) : Int :=
  if inR c.version 0 1000000 = false then 3 else
  if 8 < c.backends.length ∨ 4 < c.vips.length then 2 else
  if scan (bkBad c.backends) c.backends.length 0 ≠ 0 then scan (bkBad c.backends) c.backends.length 0 else scan (vipBad c) c.vips.length 0
def isV (a p q : Int) (v : Vip) : Bool := decide (v.address = a) && decide (v.port = p) && decide (v.proto = q)
def findV (xs : List Vip) (a p q : Int) : Int := idxG (isV a p q) xs
theorem lbn_le (xs : List Int) (v : Int) : lbn xs v ≤ xs.length := List.takeWhile_sublist _ |>.length_le
theorem lbn_pre (xs : List Int) (v : Int) : lbn xs v = preG (fun x => decide (x < v)) xs := rfl
theorem lbn_eq {xs : List Int} {v : Int} {i : Nat} (h : i ≤ xs.length) (h1 : ∀ p, p < i → xs.getD p zI_i64 < v) (h2 : i < xs.length → v ≤ xs.getD i zI_i64) : lbn xs v = i :=
  preG_eq zI_i64 h (fun q hq => by simpa using h1 q hq) (fun hi => by have := h2 hi; simp only [decide_eq_false_iff_not]; omega)
def hasI (xs : List Int) (v : Int) : Bool := decide (lbn xs v < xs.length) && decide (xs.getD (lbn xs v) zI_i64 = v)
theorem rises_lt {xs : List Int} (h : rises xs) {i : Nat} : ∀ {j : Nat}, i < j → j < xs.length → xs.getD i zI_i64 < xs.getD j zI_i64
  | 0, h1, _ => by omega
  | j + 1, h1, h2 => by
    have e := h (j + 1) (by omega) h2
    simp only [Nat.add_sub_cancel] at e
    by_cases hij : i = j
    · subst hij; exact e
    · have := rises_lt h (i := i) (j := j) (by omega) (by omega)
      omega
def riseL (xs : List Int) (v : Int) : List Int := if hasI xs v then xs else xs.take (lbn xs v) ++ [v] ++ xs.drop (lbn xs v)
theorem half_nat (a b : Nat) (h : a + b < 9223372036854775808) : ((a : Int) + b).fdiv (2 ^ min (Int.toNat 1) 64) = (((a + b) / 2 : Nat) : Int) := by
  show ((a : Int) + b).fdiv (2 ^ 1) = _
  rw [← Int.natCast_add]
  rw [Int.fdiv_eq_ediv_of_nonneg _ (by omega)]
  omega
theorem wrap_u (n : Nat) (h : n < 18446744073709551616) : IntKind.u64.wrap (n : Int) = n := by
  show ((n : Int) % 18446744073709551616) = n
  omega
def eqI (v : Int) (x : Int) : Bool := decide (x = v)
theorem hasI_eq {xs : List Int} (hr : rises xs) (v : Int) : hasG (eqI v) xs = hasI xs v := by
  cases h : hasI xs v with
  | true =>
    simp only [hasI, Bool.and_eq_true, decide_eq_true_eq] at h
    exact hasG_true zI_i64 h.1 (by simpa [eqI] using h.2)
  | false =>
    refine hasG_false zI_i64 fun j hj => ?_
    simp only [eqI, decide_eq_false_iff_not]
    intro e
    have hl : lbn xs v = j := lbn_eq (by omega) (fun p hp => by have := rises_lt hr hp hj; omega) (fun _ => by omega)
    simp only [hasI, hl, hj, e, decide_true, Bool.and_self] at h
    cases h
def notI (v : Int) (x : Int) : Bool := !decide (x = v)
theorem filter_lt {xs : List Int} {v : Int} (h : ∀ x ∈ xs, x ≠ v) : xs.filter (notI v) = xs := by
  rw [List.filter_eq_self]
  intro x hx
  simpa [notI] using h x hx
theorem without_eq {xs : List Int} (hr : rises xs) {v : Int} (h : hasI xs v = true) : xs.filter (notI v) = cutG xs (lbn xs v) := by
  simp only [hasI, Bool.and_eq_true, decide_eq_true_eq] at h
  obtain ⟨h1, h2⟩ := h
  have e : xs = xs.take (lbn xs v) ++ v :: xs.drop (lbn xs v + 1) := by
    have := drop_getD zI_i64 h1
    rw [h2] at this
    rw [← this, List.take_append_drop]
  have k : ∀ j, j < xs.length → j ≠ lbn xs v → xs.getD j zI_i64 ≠ v := fun j hj hn he => by
    rcases Nat.lt_or_gt_of_ne hn with h3 | h3
    · have := rises_lt hr h3 h1; omega
    · have := rises_lt hr h3 hj; omega
  unfold cutG
  conv => lhs; rw [e]
  rw [List.filter_append, List.filter_cons]
  rw [filter_lt, filter_lt]
  · simp [notI]
  · intro x hx
    obtain ⟨j, hj, rfl⟩ := List.getElem_of_mem hx
    have hj2 : lbn xs v + 1 + j < xs.length := by simp at hj; omega
    have := k (lbn xs v + 1 + j) hj2 (by omega)
    rwa [List.getD_eq_getElem?_getD, List.getElem?_eq_getElem hj2, Option.getD_some, ← List.getElem_drop (h := hj)] at this
  · intro x hx
    obtain ⟨j, hj, rfl⟩ := List.getElem_of_mem hx
    have hj2 : j < lbn xs v := by simp at hj; omega
    have := k j (by omega) (by omega)
    rwa [List.getD_eq_getElem?_getD, List.getElem?_eq_getElem (by omega), Option.getD_some, ← List.getElem_take (h := hj)] at this
def bOf (x : Cmd) : Backend := ⟨x.name, x.addr, x.number, 1, true⟩
def vOf (x : Cmd) : Vip := ⟨x.addr, x.number, x.proto, []⟩
def ltB (n : Int) (b : Backend) : Bool := decide (b.name < n)
def ltV (v a : Vip) : Bool := behV a v
def serves (vs : List Vip) (n : Int) : Bool := hasG (fun v => hasG (eqI n) v.names) vs
def bAt (c : Config) (n : Int) : Nat := (findB c.backends n).toNat
def vAt (c : Config) (x : Cmd) : Nat := (findV c.vips x.addr x.number x.proto).toNat
def setB (c : Config) (i : Nat) (b : Backend) : Config := { c with backends := c.backends.set i b }
def setV (c : Config) (i : Nat) (v : Vip) : Config := { c with vips := c.vips.set i v }
def turnB (c : Config) (x : Cmd) : Int × Config :=
  if x.kind = 1 then
    if 0 ≤ findB c.backends x.name then (7, c) else
    if 8 ≤ c.backends.length then (2, c) else (0, { c with backends := putG (ltB x.name) c.backends (bOf x) })
  else if findB c.backends x.name < 0 then (4, c)
  else if x.kind = 2 then (0, setB c (bAt c x.name) { c.backends.getD (bAt c x.name) zBackend with weight := x.number })
  else if x.kind = 3 then (0, setB c (bAt c x.name) { c.backends.getD (bAt c x.name) zBackend with stage := x.number })
  else if x.kind = 9 then (0, setB c (bAt c x.name) { c.backends.getD (bAt c x.name) zBackend with up := decide (x.number = 1) })
  else if (c.backends.getD (bAt c x.name) zBackend).stage ≠ 3 then (10, c)
  else if serves c.vips x.name = true then (8, c)
  else (0, { c with backends := cutG c.backends (bAt c x.name) })
def turnV (c : Config) (x : Cmd) : Int × Config :=
  if x.kind = 5 then
    if 0 ≤ findV c.vips x.addr x.number x.proto then (7, c) else
    if 4 ≤ c.vips.length then (2, c) else (0, { c with vips := putG (ltV (vOf x)) c.vips (vOf x) })
  else if findV c.vips x.addr x.number x.proto < 0 then (4, c)
  else if x.kind = 6 then (0, { c with vips := cutG c.vips (vAt c x) })
  else if x.kind = 7 then
    if findB c.backends x.name < 0 then (4, c) else
    if hasI (c.vips.getD (vAt c x) zVip).names x.name = true then (7, c) else
    (0, setV c (vAt c x) { c.vips.getD (vAt c x) zVip with names := riseL (c.vips.getD (vAt c x) zVip).names x.name })
  else if hasI (c.vips.getD (vAt c x) zVip).names x.name = false then (4, c) else
    (0, setV c (vAt c x) { c.vips.getD (vAt c x) zVip with names := cutG (c.vips.getD (vAt c x) zVip).names (lbn (c.vips.getD (vAt c x) zVip).names x.name) })
def turned (c : Config) (x : Cmd) : Int × Config := if inR x.kind 5 8 = true then turnV c x else turnB c x
def badC (k : Int) : ConfigResult := ⟨k, zConfig⟩
def applyR (c : Config) (x : Cmd) : ConfigResult :=
  if c.version = 1000000 then badC 3 else
  if x.expect ≠ -1 ∧ x.expect ≠ c.version then badC 9 else
  if (turned c x).1 ≠ 0 then badC (turned c x).1 else ⟨0, { (turned c x).2 with version := c.version + 1 }⟩
def applyCmd (c : Config) (x : Cmd) : ConfigResult :=
  if configFault c ≠ 0 then badC (configFault c) else
  if cmdFault x ≠ 0 then badC (cmdFault x) else applyR c x
def szL (n : Nat) (l : Int) : Int := if l - n < 0 then -1 else l - n
def szT (l : Int) (k : Int → Int) : Int := if l < 0 then -1 else k l
def szVip (x : Vip) (l : Int) : Int := szT (szL x.names.length l) fun l => l
def szVips : List Vip → Int → Int
  | [], l => l
  | x :: xs, l => szT (szVip x l) (szVips xs)
def szVs (xs : List Vip) (l : Int) : Int := szT (szL xs.length l) (szVips xs)
def szConfig (x : Config) (l : Int) : Int := szT (szL x.backends.length l) fun l => szT (szVs x.vips l) fun l => l
theorem szL_lo (n : Nat) (l : Int) : -1 ≤ szL n l := by unfold szL; split <;> omega
theorem szL_hi {n : Nat} {l b : Int} (h : l ≤ b) (hb : -1 ≤ b) : szL n l ≤ b := by unfold szL; split <;> omega
theorem szL_ge {n : Nat} {l : Int} (h : 0 ≤ szL n l) : szL n l = l - n ∧ n ≤ l := by
  unfold szL at *
  split at h
  · omega
  · rename_i h2
    rw [if_neg h2]
    omega
theorem szT_lo {l : Int} {k : Int → Int} (h : 0 ≤ l → -1 ≤ k l) : -1 ≤ szT l k := by unfold szT; split <;> first | omega | exact h (by omega)
theorem szT_hi {l b : Int} {k : Int → Int} (hb : -1 ≤ b) (h : k l ≤ b) : szT l k ≤ b := by unfold szT; split <;> first | omega | exact h
theorem szT_ge {l : Int} {k : Int → Int} (h : 0 ≤ szT l k) : 0 ≤ l ∧ 0 ≤ k l ∧ szT l k = k l := by
  unfold szT at *
  split at h
  · omega
  · rename_i h2
    rw [if_neg h2]
    omega
theorem szVip_lo (x : Vip) (l : Int) (h : l ≤ 1048576) : -1 ≤ szVip x l ∧ szVip x l ≤ 1048576 :=
  ⟨szT_lo fun _ => szL_lo .., szT_hi (by omega) (szL_hi h (by omega))⟩
theorem szVips_lo : ∀ (xs : List Vip) (l : Int), -1 ≤ l → l ≤ 1048576 → -1 ≤ szVips xs l ∧ szVips xs l ≤ 1048576
  | [], l, h1, h2 => ⟨h1, h2⟩
  | x :: xs, l, h1, h2 => by
    have := szVip_lo x l h2
    have h3 := szVips_lo xs (szVip x l) this.1 this.2
    exact ⟨szT_lo fun _ => h3.1, szT_hi (by omega) h3.2⟩
theorem szVs_lo (xs : List Vip) (l : Int) (h : l ≤ 1048576) : -1 ≤ szVs xs l ∧ szVs xs l ≤ 1048576 := by
  have := szVips_lo xs _ (szL_lo xs.length l) (szL_hi h (by omega))
  exact ⟨szT_lo fun _ => this.1, szT_hi (by omega) this.2⟩
theorem szConfig_lo (x : Config) (l : Int) (h : l ≤ 1048576) : -1 ≤ szConfig x l ∧ szConfig x l ≤ 1048576 := by
  have := szVs_lo x.vips _ (szL_hi (n := x.backends.length) h (by omega))
  exact ⟨szT_lo fun _ => szT_lo fun _ => this.1, szT_hi (by omega) (szT_hi (by omega) this.2)⟩
def limV (b : Nat) (x : Vip) : Prop := x.names.length ≤ b
def limG (b : Nat) (x : Config) : Prop := x.backends.length ≤ b ∧ x.vips.length ≤ b ∧ ∀ y ∈ x.vips, limV b y
theorem szVip_lim {x : Vip} {l : Int} (h : 0 ≤ szVip x l) (hl : l ≤ 1048576) : limV 1048576 x ∧ szVip x l ≤ 1048576 := by
  unfold szVip at h
  obtain ⟨a1, a2, _⟩ := szT_ge h
  have e1 := szL_ge a1
  exact ⟨by unfold limV; omega, (szVip_lo x l hl).2⟩
theorem szVips_lim : ∀ {xs : List Vip} {l : Int}, 0 ≤ szVips xs l → l ≤ 1048576 → ∀ y ∈ xs, limV 1048576 y
  | [], _, _, _ => by simp
  | x :: xs, l, h, hl => by
    obtain ⟨a1, a2, _⟩ := szT_ge h
    obtain ⟨b1, b2⟩ := szVip_lim a1 hl
    intro y hy
    rcases List.mem_cons.1 hy with rfl | hy
    · exact b1
    · exact szVips_lim a2 b2 y hy
theorem szConfig_lim {x : Config} {l : Int} (h : 0 ≤ szConfig x l) (hl : l ≤ 1048576) : limG 1048576 x := by
  unfold szConfig at h
  obtain ⟨a1, a2, _⟩ := szT_ge h
  obtain ⟨b1, b2, _⟩ := szT_ge a2
  have e1 := szL_ge a1
  obtain ⟨f1, f2, _⟩ := szT_ge b1
  have q1 := szL_ge f1
  exact ⟨by omega, by omega, szVips_lim f2 (szL_hi (szL_hi hl (by omega)) (by omega))⟩
theorem limV_mono {a b : Nat} (h : a ≤ b) {x : Vip} (hx : limV a x) : limV b x := Nat.le_trans hx h
theorem limG_mono {a b : Nat} (h : a ≤ b) {x : Config} (hx : limG a x) : limG b x := ⟨Nat.le_trans hx.1 h, Nat.le_trans hx.2.1 h, fun y hy => limV_mono h (hx.2.2 y hy)⟩
def mI (_ : Int) (k : Int) : Int := k
def sI (_ : Int) (k : Int) : Int := k + 1
def mB (_ : Backend) (k : Int) : Backend := ⟨k, k + 1, k + 1 + 1, k + 1 + 1 + 1, decide ((k + 1 + 1 + 1 + 1).tmod 3 = 0)⟩
def sB (_ : Backend) (k : Int) : Int := k + 1 + 1 + 1 + 1 + 1
def mV (x : Vip) (k : Int) : Vip := ⟨k, k + 1, k + 1 + 1, mkL mI sI x.names (k + 1 + 1 + 1)⟩
def sV (x : Vip) (k : Int) : Int := mkK sI x.names (k + 1 + 1 + 1)
def mG (x : Config) (k : Int) : Config := ⟨x.version, mkL mB sB x.backends k, mkL mV sV x.vips (mkK sB x.backends k)⟩
def sG (x : Config) (k : Int) : Int := mkK sV x.vips (mkK sB x.backends k)
theorem sI_up (x : Int) (k : Int) : k ≤ sI x k := by unfold sI; omega
theorem sB_up (x : Backend) (k : Int) : k ≤ sB x k := by unfold sB; omega
theorem sV_up (x : Vip) (k : Int) : k ≤ sV x k := by
  have := mkK_mono sI_up x.names (k + 1 + 1 + 1)
  unfold sV; omega
theorem sG_up (x : Config) (k : Int) : k ≤ sG x k := by
  have h1 := mkK_mono sB_up x.backends k
  have h2 := mkK_mono sV_up x.vips (mkK sB x.backends k)
  unfold sG; omega
theorem mkI_bd (xs : List Int) (k : Int) : mkK sI xs k ≤ k + 1 * xs.length := mkK_bd (by omega) fun x _ k => by unfold sI; omega
theorem mkB_bd (xs : List Backend) (k : Int) : mkK sB xs k ≤ k + 5 * xs.length := mkK_bd (by omega) fun x _ k => by unfold sB; omega
theorem mkV_bd {xs : List Vip} {b : Nat} (h : ∀ x ∈ xs, limV b x) (k : Int) : mkK sV xs k ≤ k + (b + 3) * xs.length := mkK_bd (by omega) fun x hx k => by
  have h1 := mkI_bd x.names (k + 1 + 1 + 1)
  have h2 := h x hx
  unfold limV at h2
  unfold sV; omega
theorem sG_bd {x : Config} (hx : limG 2097152 x) {k : Int} (hk : k ≤ 4000000000000000000) : sG x k ≤ k + 4398100000000 := by
  have h1 := mkB_bd x.backends k
  have h2 := mkV_bd hx.2.2 (mkK sB x.backends k)
  have h3 := hx.1
  have h4 := hx.2.1
  unfold sG
  have h5 : (((2097152 : Nat) : Int) + 3) * x.vips.length ≤ (((2097152 : Nat) : Int) + 3) * 2097152 := Int.mul_le_mul_of_nonneg_left (by omega) (by omega)
  omega
structure CfOk (c : Config) : Prop where
  v0 : 0 ≤ c.version
  v1 : c.version ≤ 1000000
  b8 : c.backends.length ≤ 8
  v4 : c.vips.length ≤ 4
  bk : ∀ i, i < c.backends.length → isBk (c.backends.getD i zBackend) = true
  br : ∀ i, 0 < i → i < c.backends.length → (c.backends.getD (i - 1) zBackend).name < (c.backends.getD i zBackend).name
  vp : ∀ i, i < c.vips.length → isVp (c.vips.getD i zVip) = true
  vr : ∀ i, 0 < i → i < c.vips.length → behV (c.vips.getD (i - 1) zVip) (c.vips.getD i zVip) = true
  nb : ∀ i, i < c.vips.length → hasG (noB c.backends) (c.vips.getD i zVip).names = false
  nr : ∀ i, i < c.vips.length → rises (c.vips.getD i zVip).names
theorem nmBad_zero {v : Vip} : scan (nmBad v) v.names.length 1 = 0 ↔ rises v.names := by
  rw [scan_zero]
  constructor
  · intro h i h1 h2
    have := h i (by omega) h2
    unfold nmBad at this
    split at this
    · cases this
    · omega
  · intro h j h1 h2
    have := h j (by omega) h2
    unfold nmBad
    rw [if_neg (by omega)]
theorem cf_ok {c : Config} (h : configFault c = 0) : CfOk c := by
  unfold configFault at h
  split at h
  · cases h
  rename_i g1
  split at h
  · cases h
  rename_i g2
  split at h
  · rename_i g3; exact absurd h g3
  rename_i g3
  have g3 : scan (bkBad c.backends) c.backends.length 0 = 0 := by omega
  have g1 : inR c.version 0 1000000 = true := by simpa using g1
  simp only [inR, Bool.and_eq_true, decide_eq_true_eq] at g1
  have B : ∀ i, i < c.backends.length → isBk (c.backends.getD i zBackend) = true ∧ ¬ (0 < i ∧ (c.backends.getD i zBackend).name ≤ (c.backends.getD (i - 1) zBackend).name) := by
    intro i hi
    have := scan_zero.1 g3 i (by omega) hi
    unfold bkBad at this
    split at this
    · cases this
    rename_i e1
    split at this
    · cases this
    rename_i e2
    exact ⟨by simpa using e1, e2⟩
  have V : ∀ i, i < c.vips.length → isVp (c.vips.getD i zVip) = true ∧ ¬ (0 < i ∧ behV (c.vips.getD (i - 1) zVip) (c.vips.getD i zVip) = false) ∧ hasG (noB c.backends) (c.vips.getD i zVip).names = false ∧ rises (c.vips.getD i zVip).names := by
    intro i hi
    have := scan_zero.1 h i (by omega) hi
    unfold vipBad at this
    split at this
    · cases this
    rename_i e1
    split at this
    · cases this
    rename_i e2
    split at this
    · cases this
    rename_i e3
    exact ⟨by simpa using e1, e2, by simpa using e3, nmBad_zero.1 this⟩
  refine ⟨by omega, by omega, by omega, by omega, fun i hi => (B i hi).1, fun i h0 hi => ?_, fun i hi => (V i hi).1, fun i h0 hi => ?_, fun i hi => (V i hi).2.2.1, fun i hi => (V i hi).2.2.2⟩
  · have := (B i hi).2
    omega
  · have := (V i hi).2.1
    cases e : behV (c.vips.getD (i - 1) zVip) (c.vips.getD i zVip) with
    | true => rfl
    | false => exact absurd ⟨h0, e⟩ this
theorem br_lt {bs : List Backend} (br : ∀ i, 0 < i → i < bs.length → (bs.getD (i - 1) zBackend).name < (bs.getD i zBackend).name) {i : Nat} : ∀ {j : Nat}, i < j → j < bs.length → (bs.getD i zBackend).name < (bs.getD j zBackend).name
  | 0, h1, _ => by omega
  | j + 1, h1, h2 => by
    have e := br (j + 1) (by omega) h2
    simp only [Nat.add_sub_cancel] at e
    by_cases hij : i = j
    · subst hij; exact e
    · have := br_lt br (i := i) (j := j) (by omega) (by omega)
      omega
theorem behV_trans {a b c : Vip} (h1 : behV a b = true) (h2 : behV b c = true) : behV a c = true := by
  unfold behV at *
  grind
theorem behV_asym {a b : Vip} (h1 : behV a b = true) : behV b a = false := by
  unfold behV at *
  grind
theorem behV_tri {a b : Vip} (h1 : behV a b = false) (h2 : isV b.address b.port b.proto a = false) : behV b a = true := by
  unfold behV isV at *
  grind
theorem vr_lt {vs : List Vip} (vr : ∀ i, 0 < i → i < vs.length → behV (vs.getD (i - 1) zVip) (vs.getD i zVip) = true) {i : Nat} : ∀ {j : Nat}, i < j → j < vs.length → behV (vs.getD i zVip) (vs.getD j zVip) = true
  | 0, h1, _ => by omega
  | j + 1, h1, h2 => by
    have e := vr (j + 1) (by omega) h2
    simp only [Nat.add_sub_cancel] at e
    by_cases hij : i = j
    · subst hij; exact e
    · exact behV_trans (vr_lt vr (i := i) (j := j) (by omega) (by omega)) e
theorem put_b {c : Config} (K : CfOk c) {x : Cmd} (h : findB c.backends x.name < 0) : preG (ltB x.name) c.backends ≤ c.backends.length ∧ (∀ q, preG (ltB x.name) c.backends ≤ q → q < c.backends.length → cmpB (bOf x) (c.backends.getD q zBackend) < 0) ∧ (∀ q, q < preG (ltB x.name) c.backends → ¬ cmpB (bOf x) (c.backends.getD q zBackend) < 0) ∧ ∀ i, 0 < i → i < c.backends.length → ¬ cmpB (c.backends.getD i zBackend) (c.backends.getD (i - 1) zBackend) < 0 := by
  refine ⟨preG_le .., fun q h1 h2 => ?_, fun q h1 => ?_, fun i h1 h2 => ?_⟩
  · rw [cmpB_lt]
    have hn := (idxG_neg zBackend h).2 q h2
    have ha := preG_at zBackend (p := ltB x.name) (xs := c.backends) (by omega)
    simp only [ltB, isB, decide_eq_false_iff_not] at ha hn
    show x.name < _
    by_cases e : q = preG (ltB x.name) c.backends
    · rw [← e] at ha
      omega
    · have := br_lt K.br (i := preG (ltB x.name) c.backends) (j := q) (by omega) h2
      omega
  · rw [cmpB_lt]
    have := preG_lt zBackend h1
    simp only [ltB, decide_eq_true_eq] at this
    show ¬ x.name < _
    omega
  · rw [cmpB_lt]
    have := K.br i h1 h2
    omega
theorem cmpV_neg (a b : Vip) : cmpV a b < 0 ↔ behV a b = true := by rw [← cmpV_lt]; simp
theorem put_v {c : Config} (K : CfOk c) {x : Cmd} (h : findV c.vips x.addr x.number x.proto < 0) : preG (ltV (vOf x)) c.vips ≤ c.vips.length ∧ (∀ q, preG (ltV (vOf x)) c.vips ≤ q → q < c.vips.length → cmpV (vOf x) (c.vips.getD q zVip) < 0) ∧ (∀ q, q < preG (ltV (vOf x)) c.vips → ¬ cmpV (vOf x) (c.vips.getD q zVip) < 0) ∧ ∀ i, 0 < i → i < c.vips.length → ¬ cmpV (c.vips.getD i zVip) (c.vips.getD (i - 1) zVip) < 0 := by
  refine ⟨preG_le .., fun q h1 h2 => ?_, fun q h1 => ?_, fun i h1 h2 => ?_⟩
  · rw [cmpV_neg]
    have hn := (idxG_neg zVip h).2 q h2
    have ha := preG_at zVip (p := ltV (vOf x)) (xs := c.vips) (by omega)
    have hn2 := (idxG_neg zVip h).2 (preG (ltV (vOf x)) c.vips) (by omega)
    have hb := behV_tri (a := c.vips.getD (preG (ltV (vOf x)) c.vips) zVip) (b := vOf x) ha hn2
    by_cases e : q = preG (ltV (vOf x)) c.vips
    · rw [← e] at hb
      exact hb
    · exact behV_trans hb (vr_lt K.vr (i := preG (ltV (vOf x)) c.vips) (j := q) (by omega) h2)
  · rw [cmpV_neg]
    have h3 : behV (c.vips.getD q zVip) (vOf x) = true := preG_lt zVip h1
    rw [behV_asym h3]
    simp
  · rw [cmpV_neg, behV_asym (K.vr i h1 h2)]
    simp
theorem riseL_len (xs : List Int) (v : Int) : (riseL xs v).length ≤ xs.length + 1 := by
  have := lbn_le xs v
  unfold riseL
  split
  · omega
  · simp; omega
theorem cutG_len {α : Type} (xs : List α) (i : Nat) : (cutG xs i).length ≤ xs.length := by unfold cutG; simp; omega
theorem putG_len {α : Type} (p : α → Bool) (xs : List α) (b : α) : (putG p xs b).length = xs.length + 1 := by
  have := preG_le p xs
  unfold putG
  simp; omega
theorem cutG_mem {α : Type} {xs : List α} {i : Nat} {y : α} (h : y ∈ cutG xs i) : y ∈ xs := by
  unfold cutG at h
  rcases List.mem_append.1 h with h | h
  · exact List.mem_of_mem_take h
  · exact List.mem_of_mem_drop h
theorem putG_mem {α : Type} {p : α → Bool} {xs : List α} {b y : α} (h : y ∈ putG p xs b) : y ∈ xs ∨ y = b := by
  unfold putG at h
  rcases List.mem_append.1 h with h | h
  · rcases List.mem_append.1 h with h | h
    · exact .inl (List.mem_of_mem_take h)
    · exact .inr (by simpa using h)
  · exact .inl (List.mem_of_mem_drop h)
theorem setV_lim {b : Nat} {c : Config} {n : Nat} {v : Vip} (h : limG b c) (hv : limV b v) : limG b (setV c n v) := by
  refine ⟨h.1, by simp [setV]; exact h.2.1, fun y hy => ?_⟩
  rcases List.mem_or_eq_of_mem_set hy with h1 | h1
  · exact h.2.2 y h1
  · rw [h1]; exact hv
theorem turned_lim {b : Nat} {c : Config} (h : limG b c) (x : Cmd) : limG (b + 1) (turned c x).2 := by
  have h1 : limG (b + 1) c := limG_mono (by omega) h
  have hat : ∀ n, limV b (c.vips.getD n zVip) := fun n => by
    by_cases hn : n < c.vips.length
    · exact h.2.2 _ (getD_mem zVip hn)
    · rw [List.getD_eq_getElem?_getD, List.getElem?_eq_none (by omega)]
      simp [limV, zVip]
  have hl := h.1
  have hl2 := h.2.1
  unfold turned turnV turnB
  repeat' split
  all_goals first
    | exact h1
    | exact ⟨by simp [putG_len]; omega, h1.2.1, h1.2.2⟩
    | exact ⟨by simp [setB]; omega, h1.2.1, h1.2.2⟩
    | (refine ⟨?_, h1.2.1, h1.2.2⟩; have := cutG_len c.backends (bAt c x.name); show (cutG _ _).length ≤ _; omega)
    | (refine ⟨h1.1, ?_, fun y hy => ?_⟩; (show (putG _ _ _).length ≤ _; rw [putG_len]; omega); rcases putG_mem hy with hy | hy; (exact h1.2.2 y hy); rw [hy]; simp [limV, vOf])
    | (refine ⟨h1.1, ?_, fun y hy => h1.2.2 y (cutG_mem hy)⟩; have := cutG_len c.vips (vAt c x); show (cutG _ _).length ≤ _; omega)
    | (refine setV_lim h1 ?_; have := riseL_len (c.vips.getD (vAt c x) zVip).names x.name; have := hat (vAt c x); unfold limV at *; show (riseL _ _).length ≤ _; omega)
    | (refine setV_lim h1 ?_; have := cutG_len (c.vips.getD (vAt c x) zVip).names (lbn (c.vips.getD (vAt c x) zVip).names x.name); have := hat (vAt c x); unfold limV at *; show (cutG _ _).length ≤ _; omega)
theorem zConfig_lim (b : Nat) : limG b zConfig := ⟨by simp [zConfig], by simp [zConfig], by simp [zConfig]⟩
theorem applyR_lim {b : Nat} {c : Config} (h : limG b c) (x : Cmd) : limG (b + 1) (applyR c x).config := by
  unfold applyR
  repeat' split
  · exact zConfig_lim _
  · exact zConfig_lim _
  · exact zConfig_lim _
  · have := turned_lim h x
    exact ⟨this.1, this.2.1, this.2.2⟩
theorem applyCmd_lim {b : Nat} {c : Config} (h : limG b c) (x : Cmd) : limG (b + 1) (applyCmd c x).config := by
  unfold applyCmd
  repeat' split
  · exact zConfig_lim _
  · exact zConfig_lim _
  · exact applyR_lim h x
theorem set_map_I (l : List Int) (n : Nat) (v : Int) : (l.map eI_i64).set n [.int .i64 v] = (l.set n v).map eI_i64 := by simp [List.map_set, eI_i64]
theorem del_rowsR (R : List (List T)) {i j : Nat} (hij : i ≤ j) (hj : j ≤ R.length) (J Z Q : List (List T)) : List.take (i + (R.length - j)) (List.take (i + (R.length - j)) (R.take i ++ R.drop j ++ J) ++ Z ++ Q) = R.take i ++ R.drop j := by
  have hl : (R.take i ++ R.drop j).length = i + (R.length - j) := by simp; omega
  rw [← hl, List.take_left, List.append_assoc, List.take_left]
theorem ins_grow {α : Type} {R V Z D D' J : List α} {i N a b c : Nat} (hi : i ≤ R.length) (hN : N = R.length + V.length) (ha : a = i + V.length) (hb : V.length ≤ b) (hc : c = R.length - i) :
    List.take N (List.take a (List.take i (List.take i R ++ Z) ++ List.take b V ++ D) ++ List.take c (List.drop i (R ++ J)) ++ D') = List.take i R ++ V ++ List.drop i R := by
  rw [List.take_left' (by simp; omega), List.take_of_length_le hb, List.take_left' (by simp; omega), List.drop_append_of_le_length hi, List.take_left' (l₁ := List.drop i R) (by simp; omega), List.take_left' (by simp; omega)]
theorem ins_room {α : Type} {R V D J : List α} {i N a a2 b c : Nat} (hi : i ≤ R.length) (hJ : R.length + V.length ≤ (R ++ J).length) (hN : N = R.length + V.length) (ha : a = i + V.length) (ha2 : a2 = i + V.length) (hb : V.length ≤ b) (hc : c = R.length - i) :
    List.take N (List.take i (List.take a (R ++ J) ++ List.take c (List.drop i (R ++ J)) ++ D) ++ List.take b V ++ List.drop a2 (List.take a (R ++ J) ++ List.take c (List.drop i (R ++ J)) ++ D)) = List.take i R ++ V ++ List.drop i R := by
  have e1 : List.take i (List.take a (R ++ J) ++ List.take c (List.drop i (R ++ J)) ++ D) = List.take i R := by
    rw [List.append_assoc, List.take_append_of_le_length (by simp only [List.length_take]; omega), List.take_take, Nat.min_eq_left (by omega), List.take_append_of_le_length hi]
  have e2 : List.drop a2 (List.take a (R ++ J) ++ List.take c (List.drop i (R ++ J)) ++ D) = List.drop i R ++ D := by
    rw [List.append_assoc, List.drop_left' (by simp only [List.length_take]; omega), List.drop_append_of_le_length hi, List.take_left' (l₁ := List.drop i R) (by simp; omega)]
  rw [e1, e2, List.take_of_length_le hb, ← List.append_assoc, List.take_left' (by simp; omega)]
theorem flat_I (xs : List Int) : ∀ r ∈ xs.map eI_i64, ∀ t ∈ r, t.flat = true := by
  intro r hr t ht
  simp only [List.mem_map] at hr
  obtain ⟨x, _, rfl⟩ := hr
  simp [eI_i64] at ht
  subst ht
  rfl
theorem riseL_no {xs : List Int} {v : Int} (h : hasI xs v = false) : (riseL xs v).map eI_i64 = List.take (lbn xs v) (xs.map eI_i64) ++ [[T.int .i64 v]] ++ List.drop (lbn xs v) (xs.map eI_i64) := by
  unfold riseL
  rw [h]
  simp [eI_i64]
theorem riseL_has {xs : List Int} {v : Int} (h : hasI xs v = true) : riseL xs v = xs := by
  unfold riseL
  rw [if_pos h]
def orL : List Int → Int
  | [] => 0
  | x :: xs => if x ≠ 0 then x else orL xs
theorem orL_zero : ∀ {xs : List Int}, (∀ j, j < xs.length → xs.getD j zI_i64 = 0) → orL xs = 0
  | [], _ => rfl
  | x :: xs, h => by
    have h0 := h 0 (by simp)
    simp only [List.getD_cons_zero] at h0
    rw [orL, if_neg (by omega)]
    exact orL_zero fun j hj => by simpa using h (j + 1) (by simpa using hj)
theorem orL_some : ∀ {xs : List Int} {i : Nat}, i < xs.length → (∀ j, j < i → xs.getD j zI_i64 = 0) → xs.getD i zI_i64 ≠ 0 → orL xs = xs.getD i zI_i64
  | [], _, h, _, _ => by simp at h
  | x :: xs, 0, _, _, h => by
    simp only [List.getD_cons_zero] at h ⊢
    rw [orL, if_pos h]
  | x :: xs, i + 1, hi, h, hx => by
    have h0 := h 0 (by omega)
    simp only [List.getD_cons_zero] at h0
    rw [orL, if_neg (by omega)]
    have := orL_some (xs := xs) (i := i) (by simpa using hi) (fun j hj => by simpa using h (j + 1) (by omega)) (by simpa using hx)
    simpa using this
theorem cmpV_or (a b : Vip) : orL [cmpI a.address b.address, cmpI a.port b.port, cmpI a.proto b.proto] = cmpV a b := by
  unfold orL cmpV
  simp only [orL]
  repeat' split
  all_goals first | rfl | omega | (exfalso; simp_all; done)
theorem roRows_Vip (o : Bool) (xs : List Vip) : roRows (xs.map (eVip o)) = xs.map (eVip false) := roRows_map _ _ (fun _ => rfl) xs
attribute [go_sem] roRows_Vip
theorem mix_getD {α : Type} (f g : α → List T) (z : α) {xs : List α} {i : Nat} (h : i < xs.length) (d : List T) : ((xs.take i).map f ++ (xs.drop i).map g).getD i d = g (xs.getD i z) := by
  rw [drop_getD z h, List.getD_eq_getElem?_getD, List.getElem?_append_right (by simp; omega)]
  simp [Nat.min_eq_left (Nat.le_of_lt h)]
theorem mix_set {α : Type} (f g : α → List T) (z : α) {xs : List α} {i : Nat} (h : i < xs.length) : ((xs.take i).map f ++ (xs.drop i).map g).set i (f (xs.getD i z)) = (xs.take (i + 1)).map f ++ (xs.drop (i + 1)).map g := by
  rw [take_succ_map f z h, drop_getD z h, List.map_cons, List.set_append_right _ _ (by simp; omega)]
  simp [Nat.min_eq_left (Nat.le_of_lt h)]
theorem put_rows {α : Type} (f : α → List T) (xs : List α) {k : Nat} (hk : k ≤ xs.length) (V : List T) : List.take (min k xs.length + 1 + (xs.length - k)) (List.take (min k xs.length + 1) (List.take (min k xs.length) (xs.map f) ++ [V]) ++ List.drop k (xs.map f)) = List.take k (xs.map f) ++ V :: List.drop k (xs.map f) := by
  rw [Nat.min_eq_left hk]
  have e1 : List.take (k + 1) (List.take k (xs.map f) ++ [V]) = List.take k (xs.map f) ++ [V] := List.take_of_length_le (by simp; omega)
  rw [e1, List.take_of_length_le (by simp; omega), List.append_assoc]
  rfl
theorem cut_rows {α : Type} (f : α → List T) (xs : List α) {n : Nat} (hn : n < xs.length) : List.take (min n xs.length + (xs.length - (n + 1))) (List.take (min n xs.length) (xs.map f) ++ List.drop (n + 1) (xs.map f)) = List.take n (xs.map f) ++ List.drop (n + 1) (xs.map f) := by
  rw [Nat.min_eq_left (by omega)]
  exact List.take_of_length_le (by simp; omega)
theorem limV_getD {b : Nat} {vs : List Vip} (h : ∀ y ∈ vs, limV b y) (n : Nat) : limV b (vs.getD n zVip) := by
  by_cases hn : n < vs.length
  · exact h _ (getD_mem zVip hn)
  · rw [List.getD_eq_getElem?_getD, List.getElem?_eq_none (by omega)]
    simp [limV, zVip]
theorem filter_take {α : Type} (p : α → Bool) (z : α) {xs : List α} {i : Nat} (h : i < xs.length) : (xs.take (i + 1)).filter p = (xs.take i).filter p ++ (if p (xs.getD i z) = true then [xs.getD i z] else []) := by
  rw [take_snoc z h, List.filter_append]
  congr 1
  simp only [List.filter_cons, List.filter_nil]
theorem junk_drop0 {α : Type} (J : List T) (f : α → List T) (xs : List α) (n : Nat) : List.drop n (List.replicate n J ++ List.map f (List.drop n xs)) = List.map f (List.drop n xs) := by
  rw [List.drop_append, List.drop_of_length_le (by simp), List.nil_append, List.length_replicate, Nat.sub_self]
  rfl
attribute [go_sem] junk_drop0
theorem idxG_bd {α : Type} (q : α → Bool) : ∀ (xs : List α), idxG q xs < xs.length
  | [] => by simp [idxG]
  | x :: xs => by
    have := idxG_bd q xs
    rw [idxG, List.length_cons]
    split
    · omega
    · split <;> omega
theorem put_rowsV (f : Vip → List T) (xs : List Vip) {k : Nat} (hk : k ≤ xs.length) (V : List T) : List.take (k + 1 + (xs.length - k)) (List.take (k + 1) (List.map f (List.take k xs) ++ [V]) ++ List.map f (List.drop k xs)) = List.map f (List.take k xs) ++ V :: List.map f (List.drop k xs) := by
  have e1 : List.take (k + 1) (List.map f (List.take k xs) ++ [V]) = List.map f (List.take k xs) ++ [V] := List.take_of_length_le (by simp; omega)
  rw [e1, List.take_of_length_le (by simp; omega), List.append_assoc]
  rfl
theorem put_rowsW (f : Vip → List T) (xs : List Vip) {k : Nat} (hk : k ≤ xs.length) (V : List T) : List.take (k + 1 + (xs.length - k)) (List.take (k + 1) (List.take k (List.map f xs) ++ [V]) ++ List.drop k (List.map f xs)) = List.take k (List.map f xs) ++ V :: List.drop k (List.map f xs) := by
  have := put_rowsV f xs hk V
  simpa only [List.map_take, List.map_drop] using this
theorem cut_rowsV (xs : List Vip) {n : Nat} (hn : n < xs.length) : List.take (n + (xs.length - (n + 1))) (List.take n xs ++ List.drop (n + 1) xs) = cutG xs n := List.take_of_length_le (by simp; omega)
def insAt {α : Type} (R : List α) (b : α) (j : Nat) : List α := R.take j ++ b :: R.drop j
def rowI {α : Type} (R : List α) (b : α) (i j : Nat) : List α := if i < R.length then R ++ [b] else insAt R b j
def rowO {α : Type} (R : List α) (b : α) (k i : Nat) : List α := if i ≤ R.length then R ++ [b] else insAt R b k
def verO {α : Type} (R : List α) (k i : Nat) : Nat := if i ≤ R.length then 1 else 1 + 2 * (R.length - k)
theorem insAt_len {α : Type} (R : List α) (b : α) (j : Nat) : (insAt R b j).length = R.length + 1 := by unfold insAt; simp; omega
theorem insAt_end {α : Type} (R : List α) (b : α) : insAt R b R.length = R ++ [b] := by unfold insAt; simp
theorem rowI_len {α : Type} (R : List α) (b : α) (i j : Nat) : (rowI R b i j).length = R.length + 1 := by
  unfold rowI
  split
  · simp
  · exact insAt_len ..
theorem rowO_len {α : Type} (R : List α) (b : α) (k i : Nat) : (rowO R b k i).length = R.length + 1 := by
  unfold rowO
  split
  · simp
  · exact insAt_len ..
theorem rowI_self {α : Type} (R : List α) (b : α) {i : Nat} (h : i ≤ R.length) : rowI R b i i = R ++ [b] := by
  unfold rowI
  split
  · rfl
  · rw [show i = R.length by omega]; exact insAt_end R b
theorem rowO_in {α : Type} (R : List α) (b : α) (k : Nat) {i : Nat} (h : i ≤ R.length) : rowO R b k i = R ++ [b] := if_pos h
theorem verO_in {α : Type} (R : List α) (k : Nat) {i : Nat} (h : i ≤ R.length) : verO R k i = 1 := if_pos h
theorem rowO_one {α : Type} (R : List α) (b : α) {k : Nat} (hk : k ≤ R.length) : rowO R b k 1 = R ++ [b] := by
  unfold rowO
  split
  · rfl
  · rw [show k = R.length by omega]; exact insAt_end R b
theorem verO_one {α : Type} (R : List α) {k : Nat} (hk : k ≤ R.length) : verO R k 1 = 1 := by
  unfold verO
  split
  · rfl
  · omega
theorem rowO_out {α : Type} (R : List α) (b : α) (k : Nat) : rowO R b k (R.length + 1) = insAt R b k := if_neg (by omega)
theorem rowI_lo {α : Type} (R : List α) (b : α) (z : α) {i j q : Nat} (h : i < R.length) (hq : q ≤ i) : (rowI R b i j).getD q z = R.getD q z := by
  unfold rowI
  rw [if_pos h, List.getD_eq_getElem?_getD, List.getElem?_append_left (by omega), ← List.getD_eq_getElem?_getD]
theorem rowI_at {α : Type} (R : List α) (b : α) (z : α) {i j : Nat} (h : i = R.length) (hj : j ≤ i) : (rowI R b i j).getD j z = b := by
  unfold rowI insAt
  rw [if_neg (by omega), List.getD_eq_getElem?_getD, List.getElem?_append_right (by simp; omega)]
  simp [Nat.min_eq_left (show j ≤ R.length by omega)]
theorem rowI_pre {α : Type} (R : List α) (b : α) (z : α) {i j : Nat} (h : i = R.length) (hj : j ≤ i) (h0 : 0 < j) : (rowI R b i j).getD (j - 1) z = R.getD (j - 1) z := by
  unfold rowI insAt
  rw [if_neg (by omega), List.getD_eq_getElem?_getD, List.getElem?_append_left (by simp; omega), List.getElem?_take_of_lt (by omega), ← List.getD_eq_getElem?_getD]
theorem rowI_swap {α : Type} (e : α → List T) (R : List α) (b : α) (z : α) {i j : Nat} (h : i = R.length) (hj : j ≤ i) (h0 : 0 < j) :
    (((rowI R b i j).map e).set j (e ((rowI R b i j).getD (j - 1) z))).set (j - 1) (e ((rowI R b i j).getD j z)) = (rowI R b i (j - 1)).map e := by
  rw [rowI_at R b z h hj, rowI_pre R b z h hj h0]
  unfold rowI insAt
  rw [if_neg (by omega), if_neg (by omega)]
  obtain ⟨m, rfl⟩ : ∃ m, j = m + 1 := ⟨j - 1, by omega⟩
  simp only [Nat.add_sub_cancel]
  have hm : m < R.length := by omega
  rw [take_snoc z hm, drop_getD z hm]
  have e1 : (List.map e (List.take m R ++ [R.getD m z] ++ b :: List.drop (m + 1) R)) = List.map e (List.take m R) ++ (e (R.getD m z) :: e b :: List.map e (List.drop (m + 1) R)) := by simp
  rw [e1, List.set_append_right _ _ (by simp; omega), List.set_append_right _ _ (by simp; omega)]
  have hl : (List.map e (List.take m R)).length = m := by simp; omega
  rw [hl, Nat.sub_self, show m + 1 - m = 1 by omega]
  simp
theorem rowI_end {α : Type} {cm : α → α → Int} {R : List α} {b : α} (z : α) {i j k : Nat} (hi : i ≤ R.length) (hj : j ≤ i) (h1 : ∀ q, k ≤ q → q < R.length → cm b (R.getD q z) < 0) (h4 : i = R.length → k ≤ j)
    (hc : ¬ (0 < j ∧ cm ((rowI R b i j).getD j z) ((rowI R b i j).getD (j - 1) z) < 0)) : rowI R b i j = rowO R b k (i + 1) ∧ (i = R.length → j = k) := by
  have hjk : i = R.length → j = k := fun h => by
    by_cases h0 : 0 < j
    · rw [rowI_at R b z h hj, rowI_pre R b z h hj h0] at hc
      by_cases hk : k ≤ j - 1
      · exact absurd ⟨h0, h1 (j - 1) hk (by omega)⟩ hc
      · have := h4 h
        omega
    · have := h4 h
      omega
  refine ⟨?_, hjk⟩
  unfold rowI rowO
  by_cases h : i < R.length
  · rw [if_pos h, if_pos (by omega)]
  · rw [if_neg h, if_neg (by omega), hjk (by omega)]
theorem rowI_go {α : Type} {cm : α → α → Int} {R : List α} {b : α} (z : α) {i j k : Nat} (hi : i ≤ R.length) (hj : j ≤ i) (h3 : ∀ i, 0 < i → i < R.length → ¬ cm (R.getD i z) (R.getD (i - 1) z) < 0) (h5 : i < R.length → j = i) (h2 : ∀ q, q < k → ¬ cm b (R.getD q z) < 0)
    (hc : 0 < j ∧ cm ((rowI R b i j).getD j z) ((rowI R b i j).getD (j - 1) z) < 0) : i = R.length ∧ k ≤ j - 1 := by
  obtain ⟨h0, hc⟩ := hc
  have h : i = R.length := by
    by_cases h : i < R.length
    · have e := h5 h
      subst e
      rw [rowI_lo R b z h (by omega), rowI_lo R b z h (by omega)] at hc
      exact absurd hc (h3 _ h0 h)
    · omega
  refine ⟨h, ?_⟩
  rw [rowI_at R b z h hj, rowI_pre R b z h hj h0] at hc
  by_cases hk : k ≤ j - 1
  · exact hk
  · exact absurd hc (h2 (j - 1) (by omega))
attribute [go_sem] rowI_len rowO_len insAt_len
abbrev RVp := Vip × (Option Addr × Nat × Nat)
def eRV (p : RVp) : List T := [.int .i64 p.1.address, .int .i64 p.1.port, .int .i64 p.1.proto, .val (.slice p.2.1 p.2.2.1 p.2.2.2)]
def zRV : RVp := (zVip, none, 0, 0)
def dHL : List T := [.sl true 7 []]
attribute [go_sem] dHL
def dRV : List T := eRV zRV
theorem getD_RV (xs : List RVp) (i : Nat) : (xs.map eRV).getD i dRV = eRV (xs.getD i zRV) := getD_map_ ..
theorem tm_RV : tm dRV = [.int .i64 0, .int .i64 0, .int .i64 0, .val (.slice none 0 0)] := rfl
theorem dropd_RV : List.drop 4 dRV = [] := rfl
attribute [go_sem] eRV getD_RV tm_RV dropd_RV
def OwN (w : World) (fz : Nat → Prop) : List RVp → (Nat → Prop) → Prop
  | [], _ => True
  | p :: ps, S => ∃ S1 S2 : Nat → Prop, (∀ b, S1 b → S b ∧ ¬ S2 b) ∧ (∀ b, S2 b → S b) ∧ OwT w fz (.sl true 1 (p.1.names.map eI_i64)) S1 (.slice p.2.1 p.2.2.1 p.2.2.2) ∧ OwN w fz ps S2
theorem OwN.sub {w : World} {fz : Nat → Prop} : ∀ {zs : List RVp} {S S' : Nat → Prop}, (∀ b, S b → S' b) → OwN w fz zs S → OwN w fz zs S'
  | [], _, _, _, _ => trivial
  | p :: ps, S, S', h, hr => by
    obtain ⟨S1, S2, h1, h2, h3, h4⟩ := hr
    exact ⟨S1, S2, fun b hb => ⟨h b (h1 b hb).1, (h1 b hb).2⟩, fun b hb => h b (h2 b hb), h3, h4⟩
theorem OwN.mono {w w' : World} {fz fz' : Nat → Prop} (hs : w.heap.size ≤ w'.heap.size) (hf : ∀ b, b < w.heap.size → fz b → fz' b ∧ w'.heap[b]? = w.heap[b]?) : ∀ {zs : List RVp} {S : Nat → Prop}, (∀ b, S b → b < w.heap.size → w'.heap[b]? = w.heap[b]?) → OwN w fz zs S → OwN w' fz' zs S
  | [], _, _, _ => trivial
  | p :: ps, S, h, hr => by
    obtain ⟨S1, S2, h1, h2, h3, h4⟩ := hr
    exact ⟨S1, S2, h1, h2, OwT.mono hs hf (fun _ => id) (fun b hb => h b (h1 b hb).1) h3, OwN.mono hs hf (fun b hb => h b (h2 b hb)) h4⟩
theorem OwN.split {w : World} {fz : Nat → Prop} : ∀ {a b : List RVp} {S : Nat → Prop}, OwN w fz (a ++ b) S → ∃ S1 S2 : Nat → Prop, (∀ x, S1 x → S x ∧ ¬ S2 x) ∧ (∀ x, S2 x → S x) ∧ OwN w fz a S1 ∧ OwN w fz b S2
  | [], b, S, h => ⟨fun _ => False, S, fun _ h => h.elim, fun _ h => h, trivial, h⟩
  | p :: a, b, S, h => by
    obtain ⟨S1, S2, h1, h2, h3, h4⟩ := h
    obtain ⟨R1, R2, h5, h6, h7, h8⟩ := OwN.split h4
    refine ⟨fun x => S1 x ∨ R1 x, R2, fun x hx => ?_, fun x hx => h2 x (h6 x hx), ⟨S1, R1, fun x hx => ⟨.inl hx, fun hr => (h1 x hx).2 (h5 x hr).1⟩, fun x hx => .inr hx, h3, h7⟩, h8⟩
    rcases hx with hx | hx
    · exact ⟨(h1 x hx).1, fun hr => (h1 x hx).2 (h6 x hr)⟩
    · exact ⟨h2 x (h5 x hx).1, (h5 x hx).2⟩
theorem OwN.join {w : World} {fz : Nat → Prop} : ∀ {a b : List RVp} {S1 S2 : Nat → Prop}, (∀ x, S1 x → ¬ S2 x) → OwN w fz a S1 → OwN w fz b S2 → OwN w fz (a ++ b) (fun x => S1 x ∨ S2 x)
  | [], b, S1, S2, _, _, h2 => h2.sub fun _ => .inr
  | p :: a, b, S1, S2, hd, h1, h2 => by
    obtain ⟨R1, R2, h3, h4, h5, h6⟩ := h1
    refine ⟨R1, fun x => R2 x ∨ S2 x, fun x hx => ⟨.inl (h3 x hx).1, fun hr => ?_⟩, fun x hx => hx.imp (h4 x) id, h5, OwN.join (fun x hx => hd x (h4 x hx)) h6 h2⟩
    rcases hr with hr | hr
    · exact (h3 x hx).2 hr
    · exact hd x (h3 x hx).1 hr
theorem OwN.turn {w : World} {fz : Nat → Prop} {a b : List RVp} {S : Nat → Prop} (h : OwN w fz (a ++ b) S) : OwN w fz (b ++ a) S := by
  obtain ⟨S1, S2, h1, h2, h3, h4⟩ := h.split
  refine (OwN.join (fun x hx hy => (h1 x hy).2 hx) h4 h3).sub fun x hx => ?_
  rcases hx with hx | hx
  · exact h2 x hx
  · exact (h1 x hx).1
theorem OwN.ins {w : World} {fz : Nat → Prop} {R : List RVp} {b : RVp} (k : Nat) {S : Nat → Prop} (h : OwN w fz (R ++ [b]) S) : OwN w fz (insAt R b k) S := by
  have e : R ++ [b] = R.take k ++ (R.drop k ++ [b]) := by rw [← List.append_assoc, List.take_append_drop]
  rw [e] at h
  obtain ⟨S1, S2, h1, h2, h3, h4⟩ := h.split
  refine (OwN.join (b := [b] ++ R.drop k) (fun x hx => (h1 x hx).2) h3 h4.turn).sub fun x hx => ?_
  rcases hx with hx | hx
  · exact (h1 x hx).1
  · exact h2 x hx
theorem OwN.raw {w : World} {fz : Nat → Prop} : ∀ {xs : List Vip} {S : Nat → Prop} {vs : List Value}, OwRows w fz 4 (xs.map (eVip true)) S vs → ∃ zs : List RVp, zs.map (·.1) = xs ∧ OwRows w fz 4 (zs.map eRV) (fun _ => False) vs ∧ OwN w fz zs S
  | [], _, vs, h => ⟨[], rfl, by simpa only [List.map_nil, OwRows] using h, trivial⟩
  | x :: xs, S, vs, h => by
    simp only [List.map_cons, OwRows] at h
    obtain ⟨c, d, S1, S2, rfl, h1, h2, _, h3, h4⟩ := h
    obtain ⟨zs, e, h5, h6⟩ := OwN.raw h4
    simp only [eVip, OwL] at h3
    obtain ⟨u1, _, A1, B1, rfl, _, q1, e1, u2, _, A2, B2, rfl, _, q2, e2, u3, _, A3, B3, rfl, _, q3, e3, u4, _, A4, B4, rfl, q4, _, e4, rfl⟩ := h3
    have e5 := e4
    simp only [OwT] at e5
    obtain ⟨n1, n2, rfl, _⟩ := e5
    refine ⟨(x, n1, (x.names.map eI_i64).length, n2) :: zs, by simp [e], ?_, A4, S2, fun b hb => ?_, h2, e4, h6⟩
    · simp only [List.map_cons, OwRows]
      refine ⟨[u1, u2, u3, _], d, fun _ => False, fun _ => False, rfl, fun _ h => h.elim, fun _ h => h, rfl, ?_, h5⟩
      simp only [eRV, OwL]
      have hF : ∀ b : Nat, (fun _ : Nat => False) b → (fun _ : Nat => False) b ∧ ¬ (fun _ : Nat => False) b := fun _ h => h.elim
      simp only [OwT] at e1 e2 e3
      exact ⟨u1, _, fun _ => False, fun _ => False, rfl, hF, fun _ h => h, by simp only [OwT]; exact e1, u2, _, fun _ => False, fun _ => False, rfl, hF, fun _ h => h, by simp only [OwT]; exact e2, u3, _, fun _ => False, fun _ => False, rfl, hF, fun _ h => h, by simp only [OwT]; exact e3,
        _, _, fun _ => False, fun _ => False, rfl, hF, fun _ h => h, by simp only [OwT], rfl⟩
    · exact h1 b (q1 b (q2 b (q3 b (q4 b hb).1)))
theorem OwN.back {w : World} {fz : Nat → Prop} : ∀ {zs : List RVp} {S0 S : Nat → Prop} {vs : List Value}, OwRows w fz 4 (zs.map eRV) S0 vs → OwN w fz zs S → OwRows w fz 4 ((zs.map (·.1)).map (eVip true)) S vs
  | [], _, _, vs, h, _ => by simpa only [List.map_nil, OwRows] using h
  | p :: zs, S0, S, vs, h, hn => by
    simp only [List.map_cons, OwRows] at h ⊢
    obtain ⟨c, d, S1, S2, rfl, h1, h2, _, h3, h4⟩ := h
    obtain ⟨R1, R2, n1, n2, n3, n4⟩ := hn
    refine ⟨c, d, R1, R2, rfl, n1, n2, rfl, ?_, OwN.back h4 n4⟩
    simp only [eRV, OwL] at h3
    obtain ⟨u1, _, A1, B1, rfl, _, q1, e1, u2, _, A2, B2, rfl, _, q2, e2, u3, _, A3, B3, rfl, _, q3, e3, u4, _, A4, B4, rfl, q4, _, e4, rfl⟩ := h3
    simp only [OwT] at e1 e2 e3 e4
    subst e4
    simp only [eVip, OwL]
    have hF : ∀ b : Nat, (fun _ : Nat => False) b → R1 b ∧ ¬ R1 b := fun _ h => h.elim
    exact ⟨u1, _, fun _ => False, R1, rfl, hF, fun _ h => h, by simp only [OwT]; exact e1, u2, _, fun _ => False, R1, rfl, hF, fun _ h => h, by simp only [OwT]; exact e2, u3, _, fun _ => False, R1, rfl, hF, fun _ h => h, by simp only [OwT]; exact e3,
      _, _, R1, fun _ => False, rfl, fun _ h => ⟨h, id⟩, fun _ h => h.elim, n3, rfl⟩
theorem SemX_rawVip {P : Program} [Inv P] {f : FuncId} {av : List Arg} {rs : List TV} {R : List Vip} {b : Vip} {k : Nat} (h : ∀ (R' : List RVp) (b' : RVp), R'.map (·.1) = R → b'.1 = b → SemX P f av [.arr 4 ((R' ++ [b']).map eRV)] rs [.arr 4 ((insAt R' b' k).map eRV)]) :
    SemX P f av [.arr 4 ((R ++ [b]).map (eVip true))] rs [.arr 4 ((insAt R b k).map (eVip true))] := by
  intro w fz Sa So hs vs hI hfz hS hd ha ho
  simp only [ObRepL, ObRep, OwT] at ho
  obtain ⟨_, us, S1, S2, rfl, h1, h2, ⟨base, cap, rfl, hc, hm, hrow⟩, rfl⟩ := ho
  rcases hrow with ⟨he, _⟩ | ⟨bb, cur, e, rfl, hb, hbb, hsz, hrow⟩
  · simp at he
  obtain ⟨zs, hz, hz1, hz2⟩ := OwN.raw hrow
  obtain ⟨R', l2, rfl, rfl, e2⟩ := List.map_eq_append_iff.1 hz
  obtain ⟨b', rfl, rfl⟩ : ∃ b' : RVp, l2 = [b'] ∧ b'.1 = b := by
    cases l2 with
    | nil => simp at e2
    | cons b' l =>
      simp only [List.map_cons, List.cons.injEq, List.map_eq_nil_iff] at e2
      exact ⟨b', by rw [e2.2], e2.1⟩
  have hlt : bb < w.heap.size := (Array.getElem?_eq_some_iff.1 hbb).1
  have hSo : So bb := (h1 bb hb).1
  have hlen : ((R'.map (·.1) ++ [b'.1]).map (eVip true)).length = ((R' ++ [b']).map eRV).length := by simp
  have hlen2 : ((insAt R' b' k).map eRV).length = ((R' ++ [b']).map eRV).length := by simp [insAt_len]
  rw [hlen] at hc hz1 ha ⊢
  refine (h R' b' rfl rfl w fz Sa (fun x => x = bb) _ vs hI hfz (fun x hx => ?_) (fun x hx e => ?_) ha ?_).mono ?_
  · rcases hx with hx | rfl
    · exact hS x (.inl hx)
    · exact hS x (.inr hSo)
  · subst e; exact hd x hx hSo
  · simp only [ObRepL, ObRep, OwT]
    exact ⟨_, [], fun x => x = bb, fun _ => False, rfl, fun x hx => ⟨hx, id⟩, fun _ h => h.elim, ⟨_, cap, rfl, hc, hm, .inr ⟨bb, cur, e, rfl, rfl, hbb, hsz, OwRows.sub (fun _ h => h.elim) hz1⟩⟩, rfl⟩
  rintro e w' ⟨v, fz', Sr, So', p⟩
  have po := p.obs
  simp only [ObRepL, ObRep, OwT] at po
  obtain ⟨_, _, T1, T2, hh, t1, t2, ⟨base', cap', rfl, hc', hm', hrow'⟩, rfl⟩ := po
  simp only [List.cons.injEq, Value.slice.injEq, and_true] at hh
  obtain ⟨rfl, _, rfl⟩ := hh
  rcases hrow' with ⟨he, _⟩ | ⟨b2, cur2, el2, hb2, hT, hbb2, hsz2, hrow2⟩
  · simp [insAt] at he
  simp only [Option.some.injEq, Addr.mk.injEq, and_true] at hb2
  subst hb2
  have hN : ∀ x, (S1 x ∧ x ≠ bb) → So x ∧ x < w.heap.size ∧ ¬ fz x ∧ ¬ Sa x ∧ x ≠ bb := fun x hx => by
    have h3 := (h1 x hx.1).1
    have h4 := hS x (.inr h3)
    exact ⟨h3, h4.1, h4.2.1, fun h5 => hd x h5 h3, hx.2⟩
  have hsame : ∀ x, (S1 x ∧ x ≠ bb) → x < w.heap.size → w'.heap[x]? = w.heap[x]? := fun x hx hl => p.same x hl fun h3 => by
    rcases h3 with h3 | h3
    · exact (hN x hx).2.2.2.1 h3
    · exact hx.2 h3
  have hfzm : ∀ x, x < w.heap.size → fz x → fz' x ∧ w'.heap[x]? = w.heap[x]? := fun x hl hx => ⟨p.fz1 x hx, p.same x hl fun h3 => by
    rcases h3 with h3 | h3
    · exact (hS x (.inl h3)).2.1 hx
    · subst h3; exact (hS x (.inr hSo)).2.1 hx⟩
  have hq := (OwN.mono p.size hfzm hsame hz2).ins k
  have hnf : ∀ x, (S1 x ∧ x ≠ bb) → ¬ fz' x := fun x hx h3 => by
    obtain ⟨n1, n2, n3, n4, n5⟩ := hN x hx
    rcases (p.fz2 x h3).2 with h4 | (h4 | h4) | h4
    · exact n3 h4
    · exact n4 h4
    · exact n5 h4
    · omega
  refine ⟨v, fz', Sr, fun x => x = bb ∨ (S1 x ∧ x ≠ bb), ⟨p.ret, p.os, p.tape, p.output, p.size, fun x hl hx => p.same x hl fun h3 => hx ?_, p.fz1, fun x hx => ?_, fun x hx => ?_, fun x hx h3 => ?_, p.res, ?_⟩⟩
  · rcases h3 with h3 | rfl
    · exact .inl h3
    · exact .inr hSo
  · refine ⟨(p.fz2 x hx).1, ?_⟩
    rcases (p.fz2 x hx).2 with h4 | (h4 | h4) | h4
    · exact .inl h4
    · exact .inr (.inl (.inl h4))
    · subst h4; exact .inr (.inl (.inr hSo))
    · exact .inr (.inr h4)
  · rcases hx with hx | hx | hx
    · obtain ⟨a1, a2, a3⟩ := p.own x (.inl hx)
      refine ⟨a1, a2, ?_⟩
      rcases a3 with (a3 | a3) | a3
      · exact .inl (.inl a3)
      · subst a3; exact .inl (.inr hSo)
      · exact .inr a3
    · subst hx
      obtain ⟨a1, a2, a3⟩ := p.own x (.inr (t1 x hT).1)
      exact ⟨a1, a2, .inl (.inr hSo)⟩
    · obtain ⟨n1, n2, n3, n4, n5⟩ := hN x hx
      exact ⟨Nat.lt_of_lt_of_le n2 p.size, hnf x hx, .inl (.inr n1)⟩
  · rcases h3 with h3 | h3
    · subst h3; exact p.dis x hx (t1 x hT).1
    · obtain ⟨n1, n2, n3, n4, n5⟩ := hN x h3
      rcases (p.own x (.inl hx)).2.2 with (a3 | a3) | a3
      · exact n4 a3
      · exact n5 a3
      · omega
  · have e3 : ((insAt (R'.map (·.1)) b'.1 k).map (eVip true)) = ((insAt R' b' k).map (·.1)).map (eVip true) := by simp [insAt, List.map_take, List.map_drop]
    simp only [ObRepL, ObRep, OwT]
    rw [e3]
    have hlen3 : (((insAt R' b' k).map (·.1)).map (eVip true)).length = ((insAt R' b' k).map eRV).length := by simp
    refine ⟨_, [], fun x => x = bb ∨ (S1 x ∧ x ≠ bb), fun _ => False, rfl, fun x hx => ⟨hx, id⟩, fun _ h => h.elim, ⟨_, cap, by rw [hlen3, hlen2], by rw [hlen3]; exact hc', hm, .inr ⟨bb, cur2, el2, rfl, .inl rfl, hbb2, hsz2, ?_⟩⟩, rfl⟩
    rw [hlen3]
    exact OwRows.sub (fun x hx => ⟨.inr hx, hx.2⟩) (OwN.back hrow2 hq)
theorem fst_RV (xs : List RVp) (i : Nat) : (xs.map (·.1)).getD i zVip = (xs.getD i zRV).1 := by
  simp only [List.getD_eq_getElem?_getD, List.getElem?_map]
  cases xs[i]? <;> rfl
end Go.H
end
section
set_option linter.unusedVariables false
namespace Go.H
open Go Go.Proofs.Tryz
noncomputable def tbl : Nat → Bool → List T
  | 2, _ => dI_i64
  | 3, _ => dI_i64
  | 5, _ => dI_u8
  | 6, _ => dI_u8
  | 25, b => dConfig b
  | 27, b => dWatch b
  | 31, b => dMux b
  | 37, b => dConfig b
  | 39, b => dWatch b
  | 42, b => dMux b
  | 44, b => dMuxResult b
  | 60, b => dFleet b
  | 66, b => dFleet b
  | 72, b => dUpdate b
  | 77, b => dUpdate b
  | 83, _ => dCmd
  | 85, _ => dEntry
  | 87, b => dFleetResult b
  | 89, _ => dCmd
  | 91, _ => dEntry
  | 112, _ => dFlow
  | 114, _ => dHeld
  | 151, b => dMachine b
  | 153, b => dMachineResult b
  | 165, b => dUpdateResult b
  | 170, b => dLI_i64 b
  | 178, _ => dFlow
  | 180, _ => dHeld
  | 190, b => dPacket b
  | 192, b => dPacketResult b
  | 200, _ => dBackend
  | 207, _ => dIntResult
  | 219, b => dWatchResult b
  | 244, b => dVip b
  | 266, b => dVip b
  | 272, b => dConfigResult b
  | 275, _ => dBackend
  | 282, _ => dSession
  | 289, _ => dShare
  | 317, b => dLI_i64 b
  | 340, _ => dI_i64
  | 377, _ => dI_u8
  | 378, _ => dI_u8
  | 90001, _ => dRV
  | 90002, _ => dHL
  | _, _ => []
theorem tb2 (b : Bool) : tbl 2 b = dI_i64 := rfl
theorem tb3 (b : Bool) : tbl 3 b = dI_i64 := rfl
theorem tb5 (b : Bool) : tbl 5 b = dI_u8 := rfl
theorem tb6 (b : Bool) : tbl 6 b = dI_u8 := rfl
theorem tb25 (b : Bool) : tbl 25 b = dConfig b := rfl
theorem tb27 (b : Bool) : tbl 27 b = dWatch b := rfl
theorem tb31 (b : Bool) : tbl 31 b = dMux b := rfl
theorem tb37 (b : Bool) : tbl 37 b = dConfig b := rfl
theorem tb39 (b : Bool) : tbl 39 b = dWatch b := rfl
theorem tb42 (b : Bool) : tbl 42 b = dMux b := rfl
theorem tb44 (b : Bool) : tbl 44 b = dMuxResult b := rfl
theorem tb60 (b : Bool) : tbl 60 b = dFleet b := rfl
theorem tb66 (b : Bool) : tbl 66 b = dFleet b := rfl
theorem tb72 (b : Bool) : tbl 72 b = dUpdate b := rfl
theorem tb77 (b : Bool) : tbl 77 b = dUpdate b := rfl
theorem tb83 (b : Bool) : tbl 83 b = dCmd := rfl
theorem tb85 (b : Bool) : tbl 85 b = dEntry := rfl
theorem tb87 (b : Bool) : tbl 87 b = dFleetResult b := rfl
theorem tb89 (b : Bool) : tbl 89 b = dCmd := rfl
theorem tb91 (b : Bool) : tbl 91 b = dEntry := rfl
theorem tb112 (b : Bool) : tbl 112 b = dFlow := rfl
theorem tb114 (b : Bool) : tbl 114 b = dHeld := rfl
theorem tb151 (b : Bool) : tbl 151 b = dMachine b := rfl
theorem tb153 (b : Bool) : tbl 153 b = dMachineResult b := rfl
theorem tb165 (b : Bool) : tbl 165 b = dUpdateResult b := rfl
theorem tb170 (b : Bool) : tbl 170 b = dLI_i64 b := rfl
theorem tb178 (b : Bool) : tbl 178 b = dFlow := rfl
theorem tb180 (b : Bool) : tbl 180 b = dHeld := rfl
theorem tb190 (b : Bool) : tbl 190 b = dPacket b := rfl
theorem tb192 (b : Bool) : tbl 192 b = dPacketResult b := rfl
theorem tb200 (b : Bool) : tbl 200 b = dBackend := rfl
theorem tb207 (b : Bool) : tbl 207 b = dIntResult := rfl
theorem tb219 (b : Bool) : tbl 219 b = dWatchResult b := rfl
theorem tb244 (b : Bool) : tbl 244 b = dVip b := rfl
theorem tb266 (b : Bool) : tbl 266 b = dVip b := rfl
theorem tb272 (b : Bool) : tbl 272 b = dConfigResult b := rfl
theorem tb275 (b : Bool) : tbl 275 b = dBackend := rfl
theorem tb282 (b : Bool) : tbl 282 b = dSession := rfl
theorem tb289 (b : Bool) : tbl 289 b = dShare := rfl
theorem tb317 (b : Bool) : tbl 317 b = dLI_i64 b := rfl
theorem tb340 (b : Bool) : tbl 340 b = dI_i64 := rfl
theorem tb377 (b : Bool) : tbl 377 b = dI_u8 := rfl
theorem tb378 (b : Bool) : tbl 378 b = dI_u8 := rfl
theorem tb90001 (b : Bool) : tbl 90001 b = dRV := rfl
theorem tb90002 (b : Bool) : tbl 90002 b = dHL := rfl
noncomputable def tr0 : List TypeInfo := [t0, t1, t2, t3, t4, t5, t6, t7, t8, t9, t10, t11, t12, t13, t14, t15]
noncomputable def tr1 : List TypeInfo := [t16, t17, t18, t19, t20, t21, t22, t23, t24, t25, t26, t27, t28, t29, t30, t31]
noncomputable def tr2 : List TypeInfo := [t32, t33, t34, t35, t36, t37, t38, t39, t40, t41, t42, t43, t44, t45, t46, t47]
noncomputable def tr3 : List TypeInfo := [t48, t49, t50, t51, t52, t53, t54, t55, t56, t57, t58, t59, t60, t61, t62, t63]
noncomputable def tr4 : List TypeInfo := [t64, t65, t66, t67, t68, t69, t70, t71, t72, t73, t74, t75, t76, t77, t78, t79]
noncomputable def tr5 : List TypeInfo := [t80, t81, t82, t83, t84, t85, t86, t87, t88, t89, t90, t91, t92, t93, t94, t95]
noncomputable def tr6 : List TypeInfo := [t96, t97, t98, t99, t100, t101, t102, t103, t104, t105, t106, t107, t108, t109, t110, t111]
noncomputable def tr7 : List TypeInfo := [t112, t113, t114, t115, t116, t117, t118, t119, t120, t121, t122, t123, t124, t125, t126, t127]
noncomputable def tr8 : List TypeInfo := [t128, t129, t130, t131, t132, t133, t134, t135, t136, t137, t138, t139, t140, t141, t142, t143]
noncomputable def tr9 : List TypeInfo := [t144, t145, t146, t147, t148, t149, t150, t151, t152, t153, t154, t155, t156, t157, t158, t159]
noncomputable def tr10 : List TypeInfo := [t160, t161, t162, t163, t164, t165, t166, t167, t168, t169, t170, t171, t172, t173, t174, t175]
noncomputable def tr11 : List TypeInfo := [t176, t177, t178, t179, t180, t181, t182, t183, t184, t185, t186, t187, t188, t189, t190, t191]
noncomputable def tr12 : List TypeInfo := [t192, t193, t194, t195, t196, t197, t198, t199, t200, t201, t202, t203, t204, t205, t206, t207]
noncomputable def tr13 : List TypeInfo := [t208, t209, t210, t211, t212, t213, t214, t215, t216, t217, t218, t219, t220, t221, t222, t223]
noncomputable def tr14 : List TypeInfo := [t224, t225, t226, t227, t228, t229, t230, t231, t232, t233, t234, t235, t236, t237, t238, t239]
noncomputable def tr15 : List TypeInfo := [t240, t241, t242, t243, t244, t245, t246, t247, t248, t249, t250, t251, t252, t253, t254, t255]
noncomputable def tr16 : List TypeInfo := [t256, t257, t258, t259, t260, t261, t262, t263, t264, t265, t266, t267, t268, t269, t270, t271]
noncomputable def tr17 : List TypeInfo := [t272, t273, t274, t275, t276, t277, t278, t279, t280, t281, t282, t283, t284, t285, t286, t287]
noncomputable def tr18 : List TypeInfo := [t288, t289, t290, t291, t292, t293, t294, t295, t296, t297, t298, t299, t300, t301, t302, t303]
noncomputable def tr19 : List TypeInfo := [t304, t305, t306, t307, t308, t309, t310, t311, t312, t313, t314, t315, t316, t317, t318, t319]
noncomputable def tr20 : List TypeInfo := [t320, t321, t322, t323, t324, t325, t326, t327, t328, t329, t330, t331, t332, t333, t334, t335]
noncomputable def tr21 : List TypeInfo := [t336, t337, t338, t339, t340, t341, t342, t343, t344, t345, t346, t347, t348, t349, t350, t351]
noncomputable def tr22 : List TypeInfo := [t352, t353, t354, t355, t356, t357, t358, t359, t360, t361, t362, t363, t364, t365, t366, t367]
noncomputable def tr23 : List TypeInfo := [t368, t369, t370, t371, t372, t373, t374, t375, t376, t377, t378, t379, t380, t381, t382, t383]
noncomputable def tr24 : List TypeInfo := [t384, t385]
noncomputable def tys (t : Nat) : Option TypeInfo := tyG [tr0, tr1, tr2, tr3, tr4, tr5, tr6, tr7, tr8, tr9, tr10, tr11, tr12, tr13, tr14, tr15, tr16, tr17, tr18, tr19, tr20, tr21, tr22, tr23, tr24] t
theorem goF [Inv prog] {fn : Func} {f : FuncId} {av : List Arg} {L : List Ob} {rs : List TV} {L' : List Ob} {c : (Nat → Bool → List T) → SC} {c' : SC} {rvs : List RV} (hs : List (Nat × Hn)) (dr : List (Nat × Nat × List Nat × List Nat)) (dp : List (Nat × List Nat)) (hf : prog.funcs[f]? = some fn)
    (k : CW prog c' (endX rvs L rs L') (initS av L)) (hc : ∀ tb, genF tys fn tb hs dr dp = c tb := by intro tb; cbv) (hcc : c tbl = c' := by first | (dsimp only [tb2, tb3, tb5, tb6, tb25, tb27, tb31, tb37, tb39, tb42, tb44, tb60, tb66, tb72, tb77, tb83, tb85, tb87, tb89, tb91, tb112, tb114, tb151, tb153, tb165, tb170, tb178, tb180, tb190, tb192, tb200, tb207, tb219, tb244, tb266, tb272, tb275, tb282, tb289, tb317, tb340, tb377, tb378, tb90001, tb90002] <;> exact rfl) | exact rfl) (hk : OkG prog fn (genF tys fn tbl hs dr dp) := by exact ⟨_, rfl, by kernel_rfl, by kernel_rfl⟩)
    (h0 : cmpR prog fn.results.toList = some (rvG tys fn.results.toList) := by kernel_rfl) (hr : rvG tys fn.results.toList = rvs := by cbv) (hn : Nat.ble av.length fn.ntmps = true := by kernel_rfl) (has : Nat.ble av.length 199 = true := by rfl)
    (hok : ∀ o ∈ L, obOk o := by first | (simp; done) | (simp [obOk]; done) | (simp [obOk, go_sem]; done)) (hok2 : ∀ a ∈ av, argOk a := by first | (simp [argOk, aT, aI, aS]; done) | (simp [argOk, go_sem]; done)) : SemX prog f av L rs L' := by
  obtain ⟨cc, g1, g2, g3⟩ := hk
  subst hcc
  subst hr
  rw [hc tbl] at g2 g3
  exact SemX.of_code hf g1 g2 g3 h0 (Nat.le_of_ble_eq_true hn) (Nat.lt_succ_of_le (Nat.le_of_ble_eq_true has)) hok hok2 k
theorem goFC [Inv prog] {fn : Func} {f : FuncId} {av : List Arg} {L : List Ob} {rs : List TV} {L' : List Ob} {c : (Nat → Bool → List T) → SC} {c' : SC} {rvs : List RV} (k0 : Nat) {A : Arr} (hs : List (Nat × Hn)) (dr : List (Nat × Nat × List Nat × List Nat)) (dp : List (Nat × List Nat)) (hf : prog.funcs[f]? = some fn)
    (k : ∀ cp, A.rows.length ≤ cp → cp ≤ 9223372036854775807 → CW prog c' (endX rvs L rs L') ((initS av L).full k0 cp)) (hk0 : look k0 (initS av L).ms = some (.arr A) := by exact rfl) (hc : ∀ tb, genF tys fn tb hs dr dp = c tb := by intro tb; cbv) (hcc : c tbl = c' := by first | (dsimp only [tb2, tb3, tb5, tb6, tb25, tb27, tb31, tb37, tb39, tb42, tb44, tb60, tb66, tb72, tb77, tb83, tb85, tb87, tb89, tb91, tb112, tb114, tb151, tb153, tb165, tb170, tb178, tb180, tb190, tb192, tb200, tb207, tb219, tb244, tb266, tb272, tb275, tb282, tb289, tb317, tb340, tb377, tb378, tb90001, tb90002] <;> exact rfl) | exact rfl) (hk : OkG prog fn (genF tys fn tbl hs dr dp) := by exact ⟨_, rfl, by kernel_rfl, by kernel_rfl⟩)
    (h0 : cmpR prog fn.results.toList = some (rvG tys fn.results.toList) := by kernel_rfl) (hr : rvG tys fn.results.toList = rvs := by cbv) (hn : Nat.ble av.length fn.ntmps = true := by kernel_rfl) (has : Nat.ble av.length 199 = true := by rfl)
    (hok : ∀ o ∈ L, obOk o := by first | (simp; done) | (simp [obOk]; done) | (simp [obOk, go_sem]; done)) (hok2 : ∀ a ∈ av, argOk a := by first | (simp [argOk, aT, aI, aS]; done) | (simp [argOk, go_sem]; done)) : SemX prog f av L rs L' := by
  obtain ⟨cc, g1, g2, g3⟩ := hk
  subst hcc
  subst hr
  rw [hc tbl] at g2 g3
  exact SemX.of_codeC k0 hf g1 g2 g3 h0 (Nat.le_of_ble_eq_true hn) (Nat.lt_succ_of_le (Nat.le_of_ble_eq_true has)) hok hok2 hk0 k
end Go.H
end
section
set_option maxRecDepth 100000
set_option maxHeartbeats 4000000
set_option cbv.maxSteps 4000000
set_option linter.unusedVariables false
set_option linter.unusedSimpArgs false
namespace Go.H
open Go Go.Proofs.Tryz
variable [Inv prog]
theorem s_laws_szEntryS (rows : List (List T)) (l : Int) (h0 : -1 ≤ l) (h1 : l ≤ 1048576) (hl : rows.length ≤ 9223372036854775807) : SemX prog 75 [aT (.sl false 9 rows), aI l] [] [rI (szL rows.length l)] [] := by
 refine goF [] [] [] func75 ?_
 refine D ?_
 refine cC (fun c0 => ?_) (fun c0 => ?_)
 · skip
   refine D ?_
   refine E ?_
   first
   | exact trivial
   | simp [szL, *]
 · skip
   refine D ?_
   refine E ?_
   first
   | exact trivial
   | simp [szL, *]
theorem s_laws_szBackendS (rows : List (List T)) (l : Int) (h0 : -1 ≤ l) (h1 : l ≤ 1048576) (hl : rows.length ≤ 9223372036854775807) : SemX prog 162 [aT (.sl false 5 rows), aI l] [] [rI (szL rows.length l)] [] := by
 refine goF [] [] [] func162 ?_
 refine D ?_
 refine cC (fun c0 => ?_) (fun c0 => ?_)
 · skip
   refine D ?_
   refine E ?_
   first
   | exact trivial
   | simp [szL, *]
 · skip
   refine D ?_
   refine E ?_
   first
   | exact trivial
   | simp [szL, *]
theorem s_laws_szInt64S (rows : List (List T)) (l : Int) (h0 : -1 ≤ l) (h1 : l ≤ 1048576) (hl : rows.length ≤ 9223372036854775807) : SemX prog 113 [aT (.sl false 1 rows), aI l] [] [rI (szL rows.length l)] [] := by
 refine goF [] [] [] func113 ?_
 refine D ?_
 refine cC (fun c0 => ?_) (fun c0 => ?_)
 · skip
   refine D ?_
   refine E ?_
   first
   | exact trivial
   | simp [szL, *]
 · skip
   refine D ?_
   refine E ?_
   first
   | exact trivial
   | simp [szL, *]
theorem s_laws_szVip (x : Vip) (l : Int) (h0 : -1 ≤ l) (h1 : l ≤ 1048576) (hx : x.names.length ≤ 9223372036854775807) : SemX prog 228 [aS (eVip false x), aI l] [] [rI (szVip x l)] [] := by
 refine goF [] [] [] func228 ?_
 refine D ?_
 refine kR (s_laws_szInt64S (x.names.map eI_i64) (l) h0 h1 (by simp only [List.length_map]; omega)) ?_
 refine D ?_
 refine cC (fun c0 => ?_) (fun c0 => ?_)
 · skip
   refine D ?_
   refine E ?_
   first
   | exact trivial
   | simp [szVip, szT, *]
 · skip
   refine D ?_
   refine E ?_
   first
   | exact trivial
   | simp [szVip, szT, *]
theorem s_laws_szVipS (xs : List Vip) (l : Int) (h0 : -1 ≤ l) (h1 : l ≤ 1048576) (hl : xs.length ≤ 9223372036854775807) (hm : ∀ i < xs.length, (xs.getD i zVip).names.length ≤ 9223372036854775807) : SemX prog 163 [aT (.sl false 4 (xs.map (eVip false))), aI l] [] [rI (szVs xs l)] [] := by
 refine goF [] [] [] func163 ?_
 refine D ?_
 refine cC (fun c0 => ?_) (fun c0 => ?_)
 · skip
   refine D ?_
   refine E ?_
   simp [szVs, szL, szT, *]
 · skip
   refine D ?_
   refine L (α := (Nat × Int)) (fun x => [(1, .int .i64 x.2), (5, .int .i64 x.1)]) (fun x => []) (fun x => xs.length - x.1) (fun x => x.1 ≤ xs.length ∧ -1 ≤ x.2 ∧ x.2 ≤ 1048576 ∧ szVips xs (szL xs.length l) = szVips (xs.drop x.1) x.2) (0, szL xs.length l) [] (fun x0 hL => ?_) (by simp only [go_sem] <;> and_intros <;> first | with_reducible exact rfl | (first | omega | (simp [szL, *]; done))) (by refine ⟨Nat.zero_le _, szL_lo _ _, szL_hi h1 (by omega), rfl⟩)
   obtain ⟨i, m⟩ := x0
   obtain ⟨hi, hm1, hm2, he⟩ := hL
   try dsimp only at *
   refine D ?_
   refine cC (fun c1 => ?_) (fun c1 => ?_)
   · skip
     refine D ?_
     refine kR (s_laws_szVip (xs.getD i zVip) m hm1 hm2 (hm i (by omega))) ?_
     refine D ?_
     refine cC (fun c2 => ?_) (fun c2 => ?_)
     · skip
       refine D ?_
       refine E ?_
       have := szL_lo xs.length l
       rw [szVs, szT, if_neg (by unfold szL; split <;> omega), he, drop_getD zVip (by omega)]
       simp [szVips, szT, *, -List.getD_eq_getElem?_getD]
     · skip
       refine D ?_
       refine lp_next (i + 1, szVip (xs.getD i zVip) m) [] ?_ ?_ ?_
       · simp only [go_sem] <;> and_intros <;> first | with_reducible exact rfl | (first | omega | (simp [szL, *]; done))
       · refine ⟨by omega, (szVip_lo _ _ hm2).1, (szVip_lo _ _ hm2).2, ?_⟩
         rw [he, drop_getD zVip (by omega)]
         simp [szVips, szT, *, -List.getD_eq_getElem?_getD]
       · try dsimp only
         omega
   · skip
     obtain rfl : i = xs.length := by omega
     refine D ?_
     refine E ?_
     first
     | exact trivial
     | rw [szVs, szT, if_neg (by unfold szL; split <;> omega), he]
       simp [szVips]
theorem s_laws_szConfig (x : Config) (l : Int) (h0 : -1 ≤ l) (h1 : l ≤ 1048576) (hb : x.backends.length ≤ 9223372036854775807) (hv : x.vips.length ≤ 9223372036854775807) (hV : ∀ i < x.vips.length, (x.vips.getD i zVip).names.length ≤ 9223372036854775807) : SemX prog 83 [aS (eConfig false x), aI l] [] [rI (szConfig x l)] [] := by
 refine goF [] [] [] func83 ?_
 refine D ?_
 refine kR (s_laws_szBackendS (x.backends.map eBackend) l h0 h1 (by simp only [List.length_map]; omega)) ?_
 refine D ?_
 refine cC (fun c0 => ?_) (fun c0 => ?_)
 · skip
   refine D ?_
   refine E ?_
   first
   | exact trivial
   | simp [szConfig, szT, *]
 · skip
   refine D ?_
   refine kR (s_laws_szVipS x.vips (szL x.backends.length l) (szL_lo _ _) (szL_hi h1 (by omega)) hv hV) ?_
   refine D ?_
   refine cC (fun c1 => ?_) (fun c1 => ?_)
   · skip
     refine D ?_
     refine E ?_
     first
     | exact trivial
     | simp [szConfig, szT, *]
   · skip
     refine D ?_
     refine E ?_
     first
     | exact trivial
     | simp [szConfig, szT, *]
end Go.H
end
section
set_option linter.unusedVariables false
set_option linter.unusedSimpArgs false
namespace Go.H
open Go
theorem noShR_RV (xs : List RVp) : T.noShR (xs.map eRV) = True := noShR_map _ (fun _ => by simp [eRV, T.noShL, T.noSh]) xs
attribute [go_sem] noShR_RV
theorem turned_ver (c : Config) (x : Cmd) : (turned c x).2.version = c.version := by
  unfold turned turnV turnB
  repeat' split
  all_goals rfl
theorem mkL_take {α : Type} (f : α → Int → α) (s : α → Int → Int) (xs : List α) (k : Int) : List.take xs.length (mkL f s xs k) = mkL f s xs k := List.take_of_length_le (by rw [mkL_length]; exact Nat.le_refl _)
theorem flat_Se (xs : List Session) : ∀ r ∈ xs.map eSession, ∀ t ∈ r, t.flat = true := by
  intro r hr t ht
  simp only [List.mem_map] at hr
  obtain ⟨x, _, rfl⟩ := hr
  simp only [eSession, List.mem_cons, List.not_mem_nil, or_false] at ht
  rcases ht with rfl | rfl | rfl <;> rfl
def cmdZero (c : Cmd) : Bool := decide (c.kind = 0) && (decide (c.expect = 0) && (decide (c.name = 0) && (decide (c.addr = 0) && (decide (c.number = 0) && decide (c.proto = 0)))))
def entryFault (x : Entry) : Int :=
  if !inR x.term 1 100000 || !inR x.client 0 999 || !inR x.seq 0 1000000 then 3 else
  if decide (x.client = 0) ≠ decide (x.seq = 0) then 1 else
  if x.client ≠ 0 then cmdFault x.cmd else
  if !cmdZero x.cmd then 1 else 0
def isSe (s : Session) : Bool := inR s.client 1 999 && inR s.seq 1 1000000 && inR s.code 0 10
def seBad (xs : List Session) (i : Nat) : Int := if isSe (xs.getD i zSession) = false then 3 else if 0 < i ∧ (xs.getD i zSession).client ≤ (xs.getD (i - 1) zSession).client then 1 else 0
def machineFault (m : Machine) : Int := if configFault m.config ≠ 0 then configFault m.config else if 40 < m.sessions.length then 2 else scan (seBad m.sessions) m.sessions.length 0
def isSes (c : Int) (s : Session) : Bool := decide (s.client = c)
def seAt (xs : List Session) (c : Int) : Int := idxG (isSes c) xs
def ltS (c : Int) (s : Session) : Bool := decide (s.client < c)
def lbS (xs : List Session) (c : Int) : Nat := preG (ltS c) xs
def hasS (xs : List Session) (c : Int) : Bool := decide (lbS xs c < xs.length) && decide ((xs.getD (lbS xs c) zSession).client = c)
def risesS (xs : List Session) : Prop := ∀ i, 0 < i → i < xs.length → (xs.getD (i - 1) zSession).client < (xs.getD i zSession).client
structure MaOk (m : Machine) : Prop where
  cf : CfOk m.config
  s40 : m.sessions.length ≤ 40
  se : ∀ i, i < m.sessions.length → isSe (m.sessions.getD i zSession) = true
  rs : risesS m.sessions
theorem ma_ok {m : Machine} (h : machineFault m = 0) : configFault m.config = 0 ∧ MaOk m := by
  unfold machineFault at h
  split at h
  · rename_i g; exact absurd h g
  rename_i g1
  have g1 : configFault m.config = 0 := by omega
  split at h
  · cases h
  rename_i g2
  have B : ∀ i, i < m.sessions.length → isSe (m.sessions.getD i zSession) = true ∧ ¬ (0 < i ∧ (m.sessions.getD i zSession).client ≤ (m.sessions.getD (i - 1) zSession).client) := by
    intro i hi
    have := scan_zero.1 h i (by omega) hi
    unfold seBad at this
    split at this
    · cases this
    rename_i e1
    split at this
    · cases this
    rename_i e2
    exact ⟨by simpa using e1, e2⟩
  exact ⟨g1, cf_ok g1, by omega, fun i hi => (B i hi).1, fun i h0 hi => by have := (B i hi).2; omega⟩
theorem ma_fault {m : Machine} (h0 : configFault m.config = 0) (K : MaOk m) : machineFault m = 0 := by
  unfold machineFault
  rw [if_neg (by omega), if_neg (by have := K.s40; omega), scan_zero]
  intro j _ hj
  unfold seBad
  rw [if_neg (by rw [K.se j hj]; simp), if_neg]
  rintro ⟨h1, h2⟩
  have := K.rs j h1 hj
  omega
theorem risesS_lt {xs : List Session} (h : risesS xs) {i : Nat} : ∀ {j : Nat}, i < j → j < xs.length → (xs.getD i zSession).client < (xs.getD j zSession).client
  | 0, h1, _ => by omega
  | j + 1, h1, h2 => by
    have e := h (j + 1) (by omega) h2
    simp only [Nat.add_sub_cancel] at e
    by_cases hij : i = j
    · subst hij; exact e
    · have := risesS_lt h (i := i) (j := j) (by omega) (by omega)
      omega
theorem lbS_le (xs : List Session) (c : Int) : lbS xs c ≤ xs.length := preG_le ..
theorem lbS_lt {xs : List Session} {c : Int} {i : Nat} (h : i < lbS xs c) : (xs.getD i zSession).client < c := by
  have := preG_lt zSession h
  simpa only [ltS, decide_eq_true_eq] using this
theorem lbS_at {xs : List Session} {c : Int} (h : lbS xs c < xs.length) : c ≤ (xs.getD (lbS xs c) zSession).client := by
  have : ltS c (xs.getD (lbS xs c) zSession) = false := preG_at zSession h
  simp only [ltS, decide_eq_false_iff_not] at this
  omega
theorem lbS_eq {xs : List Session} {c : Int} {i : Nat} (h : i ≤ xs.length) (h1 : ∀ p, p < i → (xs.getD p zSession).client < c) (h2 : i < xs.length → c ≤ (xs.getD i zSession).client) : lbS xs c = i :=
  preG_eq zSession h (fun q hq => by simpa only [ltS, decide_eq_true_eq] using h1 q hq) (fun hi => by have := h2 hi; simp only [ltS, decide_eq_false_iff_not]; omega)
theorem seAt_eq {xs : List Session} (hr : risesS xs) (c : Int) : seAt xs c = if hasS xs c = true then (lbS xs c : Int) else -1 := by
  cases h : hasS xs c with
  | true =>
    simp only [hasS, Bool.and_eq_true, decide_eq_true_eq] at h
    rw [if_pos rfl]
    exact idxG_some zSession h.1 (fun j hj => by have := lbS_lt hj; simp only [isSes, decide_eq_false_iff_not]; omega) (by simpa only [isSes, decide_eq_true_eq] using h.2)
  | false =>
    rw [if_neg (by simp)]
    refine idxG_none zSession fun j hj => ?_
    simp only [isSes, decide_eq_false_iff_not]
    intro e
    have hl : lbS xs c = j := lbS_eq (by omega) (fun p hp => by have := risesS_lt hr hp hj; omega) (fun _ => by omega)
    simp only [hasS, hl, hj, e, decide_true, Bool.and_self] at h
    cases h
def stepP (s : Session) (a : Bool × List Session) (y : Session) : Bool × List Session :=
  (a.1 || decide (s.client ≤ y.client), a.2 ++ (if a.1 = false ∧ s.client ≤ y.client then [s] else []) ++ (if y.client ≠ s.client then [y] else []))
def foldP (xs : List Session) (s : Session) (i : Nat) : Bool × List Session := (xs.take i).foldl (stepP s) (false, [])
def putL (xs : List Session) (s : Session) : List Session := if (foldP xs s xs.length).1 = true then (foldP xs s xs.length).2 else (foldP xs s xs.length).2 ++ [s]
theorem foldP_zero (xs : List Session) (s : Session) : foldP xs s 0 = (false, []) := rfl
theorem foldP_succ {xs : List Session} (s : Session) {i : Nat} (h : i < xs.length) : foldP xs s (i + 1) = stepP s (foldP xs s i) (xs.getD i zSession) := by
  unfold foldP
  rw [take_snoc zSession h, List.foldl_append]
  rfl
theorem foldP_len (xs : List Session) (s : Session) : ∀ i, (foldP xs s i).2.length ≤ 2 * i
  | 0 => by simp [foldP]
  | i + 1 => by
    by_cases h : i < xs.length
    · rw [foldP_succ s h]
      have := foldP_len xs s i
      unfold stepP
      simp only [List.length_append]
      have e1 : (if (foldP xs s i).1 = false ∧ s.client ≤ (xs.getD i zSession).client then [s] else []).length ≤ 1 := by split <;> simp
      have e2 : (if (xs.getD i zSession).client ≠ s.client then [xs.getD i zSession] else []).length ≤ 1 := by split <;> simp
      omega
    · have e : foldP xs s (i + 1) = foldP xs s i := by unfold foldP; rw [List.take_of_length_le (by omega), List.take_of_length_le (by omega)]
      rw [e]
      have := foldP_len xs s i
      omega
def putS (xs : List Session) (s : Session) : List Session := xs.take (lbS xs s.client) ++ s :: xs.drop (if hasS xs s.client = true then lbS xs s.client + 1 else lbS xs s.client)
def putR (s : Session) : Bool → List Session → List Session
  | d, [] => if d = true then [] else [s]
  | d, y :: ys => (if d = false ∧ s.client ≤ y.client then [s] else []) ++ (if y.client ≠ s.client then [y] else []) ++ putR s (d || decide (s.client ≤ y.client)) ys
theorem putR_fold (s : Session) : ∀ (ys : List Session) (a : Bool × List Session), (if (ys.foldl (stepP s) a).1 = true then (ys.foldl (stepP s) a).2 else (ys.foldl (stepP s) a).2 ++ [s]) = a.2 ++ putR s a.1 ys
  | [], a => by
    show (if a.1 = true then a.2 else a.2 ++ [s]) = a.2 ++ (if a.1 = true then [] else [s])
    split <;> simp
  | y :: ys, a => by
    have := putR_fold s ys (stepP s a y)
    rw [putR]
    refine this.trans ?_
    simp only [stepP, List.append_assoc]
theorem putL_R (xs : List Session) (s : Session) : putL xs s = putR s false xs := by
  unfold putL foldP
  rw [List.take_of_length_le (Nat.le_refl _)]
  simpa using putR_fold s xs (false, [])
theorem putR_true {s : Session} : ∀ {ys : List Session}, (∀ y ∈ ys, y.client ≠ s.client) → putR s true ys = ys
  | [], _ => rfl
  | y :: ys, h => by
    rw [putR, if_neg (by simp), if_pos (h y (by simp)), Bool.true_or, putR_true fun z hz => h z (by simp [hz])]
    rfl
theorem risesS_tail {y : Session} {ys : List Session} (h : risesS (y :: ys)) : risesS ys ∧ ∀ z ∈ ys, y.client < z.client := by
  refine ⟨fun i h0 hi => ?_, fun z hz => ?_⟩
  · have := h (i + 1) (by omega) (by simpa using hi)
    obtain ⟨k, rfl⟩ : ∃ k, i = k + 1 := ⟨i - 1, by omega⟩
    simpa using this
  · obtain ⟨j, hj, rfl⟩ := List.getElem_of_mem hz
    have := risesS_lt h (i := 0) (j := j + 1) (by omega) (by simpa using hj)
    simp only [List.getD_cons_zero, List.getD_cons_succ] at this
    rwa [List.getD_eq_getElem?_getD, List.getElem?_eq_getElem hj, Option.getD_some] at this
theorem lbS_cons_lt {y : Session} {ys : List Session} {c : Int} (h : y.client < c) : lbS (y :: ys) c = lbS ys c + 1 := by
  unfold lbS preG
  rw [List.takeWhile_cons_of_pos (by simpa [ltS] using h)]
  rfl
theorem lbS_cons_ge {y : Session} {ys : List Session} {c : Int} (h : c ≤ y.client) : lbS (y :: ys) c = 0 := by
  unfold lbS preG
  rw [List.takeWhile_cons_of_neg (by simp [ltS]; omega)]
  rfl
theorem hasS_cons_lt {y : Session} {ys : List Session} {c : Int} (h : y.client < c) : hasS (y :: ys) c = hasS ys c := by
  unfold hasS
  rw [lbS_cons_lt h]
  simp
theorem putL_eq (s : Session) : ∀ {xs : List Session}, risesS xs → putL xs s = putS xs s
  | [], _ => by
    rw [putL_R]
    unfold putS
    simp [putR]
  | y :: ys, h => by
    obtain ⟨h1, h2⟩ := risesS_tail h
    have ih := putL_eq s h1
    rw [putL_R] at ih ⊢
    rw [putR]
    rcases Int.lt_trichotomy y.client s.client with e | e | e
    · rw [if_neg (by omega), if_pos (by omega)]
      have : (false || decide (s.client ≤ y.client)) = false := by simp; omega
      rw [this, ih]
      unfold putS
      rw [lbS_cons_lt e, hasS_cons_lt e]
      split <;> simp
    · rw [if_pos ⟨rfl, by omega⟩, if_neg (by omega)]
      have : (false || decide (s.client ≤ y.client)) = true := by simp; omega
      rw [this, putR_true fun z hz => by have := h2 z hz; omega]
      have e0 : lbS (y :: ys) s.client = 0 := lbS_cons_ge (by omega)
      have e1 : hasS (y :: ys) s.client = true := by unfold hasS; rw [e0]; simp [e]
      unfold putS
      rw [e0, e1]
      simp
    · rw [if_pos ⟨rfl, by omega⟩, if_pos (by omega)]
      have : (false || decide (s.client ≤ y.client)) = true := by simp; omega
      rw [this, putR_true fun z hz => by have := h2 z hz; omega]
      have e0 : lbS (y :: ys) s.client = 0 := lbS_cons_ge (by omega)
      have e1 : hasS (y :: ys) s.client = false := by unfold hasS; rw [e0]; simp; omega
      unfold putS
      rw [e0, e1]
      simp
theorem putS_len (xs : List Session) (s : Session) : (putS xs s).length ≤ xs.length + 1 := by
  have := lbS_le xs s.client
  unfold putS
  split <;> simp <;> omega
def badM (k : Int) : MachineResult := ⟨k, 0, false, zMachine⟩
def oldM (m : Machine) (x : Entry) : Bool := hasS m.sessions x.client && decide (x.seq ≤ (m.sessions.getD (lbS m.sessions x.client) zSession).seq)
def enterM (m : Machine) (x : Entry) : MachineResult :=
  if x.client = 0 then ⟨0, 0, false, m⟩ else
  if oldM m x = true then ⟨0, if (m.sessions.getD (lbS m.sessions x.client) zSession).seq = x.seq then (m.sessions.getD (lbS m.sessions x.client) zSession).code else 9, false, m⟩ else
  if hasS m.sessions x.client = false ∧ 40 ≤ m.sessions.length then badM 2 else
  ⟨0, (applyR m.config x.cmd).code, true, ⟨if (applyR m.config x.cmd).code = 0 then (applyR m.config x.cmd).config else m.config, putS m.sessions ⟨x.client, x.seq, (applyR m.config x.cmd).code⟩⟩⟩
def applyEntry (m : Machine) (x : Entry) : MachineResult :=
  if machineFault m ≠ 0 then badM (machineFault m) else if entryFault x ≠ 0 then badM (entryFault x) else enterM m x
def limM (b : Nat) (m : Machine) : Prop := limG b m.config ∧ m.sessions.length ≤ b
theorem enterM_lim {b : Nat} {m : Machine} (h : limM b m) (x : Entry) : limM (b + 1) (enterM m x).machine := by
  have hm : limM (b + 1) m := ⟨limG_mono (by omega) h.1, Nat.le_succ_of_le h.2⟩
  have hz : limM (b + 1) zMachine := ⟨zConfig_lim _, by simp [zMachine]⟩
  unfold enterM
  repeat' split
  · exact hm
  · exact hm
  · exact hm
  · exact hz
  · refine ⟨applyR_lim h.1 x.cmd, ?_⟩
    have := putS_len m.sessions ⟨x.client, x.seq, (applyR m.config x.cmd).code⟩
    have := h.2
    show (putS _ _).length ≤ _
    omega
  · refine ⟨hm.1, ?_⟩
    have := putS_len m.sessions ⟨x.client, x.seq, (applyR m.config x.cmd).code⟩
    have := h.2
    show (putS _ _).length ≤ _
    omega
theorem applyEntry_lim {b : Nat} {m : Machine} (h : limM b m) (x : Entry) : limM (b + 1) (applyEntry m x).machine := by
  have hz : limM (b + 1) zMachine := ⟨zConfig_lim _, by simp [zMachine]⟩
  unfold applyEntry
  repeat' split
  · exact hz
  · exact hz
  · exact enterM_lim h x
def szMachine (x : Machine) (l : Int) : Int := szT (szConfig x.config l) fun l => szT (szL x.sessions.length l) fun l => l
theorem szMachine_lim {x : Machine} {l : Int} (h : 0 ≤ szMachine x l) (hl : l ≤ 1048576) : limM 1048576 x := by
  unfold szMachine at h
  obtain ⟨a1, a2, _⟩ := szT_ge h
  obtain ⟨b1, b2, _⟩ := szT_ge a2
  have h2 := (szConfig_lo x.config l hl).2
  have e1 := szL_ge b1
  exact ⟨szConfig_lim a1 hl, by omega⟩
def mSe (_ : Session) (k : Int) : Session := ⟨k, k + 1, k + 1 + 1⟩
def sSe (_ : Session) (k : Int) : Int := k + 1 + 1 + 1
theorem sSe_up (x : Session) (k : Int) : k ≤ sSe x k := by unfold sSe; omega
def mM (x : Machine) (k : Int) : Machine := ⟨mG x.config k, mkL mSe sSe x.sessions (sG x.config k)⟩
def sM (x : Machine) (k : Int) : Int := mkK sSe x.sessions (sG x.config k)
theorem sM_up (x : Machine) (k : Int) : k ≤ sM x k := by
  have h1 := sG_up x.config k
  have h2 := mkK_mono sSe_up x.sessions (sG x.config k)
  unfold sM; omega
theorem mkSe_bd (xs : List Session) (k : Int) : mkK sSe xs k ≤ k + 3 * xs.length := mkK_bd (by omega) fun x _ k => by unfold sSe; omega
theorem sM_bd {x : Machine} (hx : limM 2097152 x) {k : Int} (hk : k ≤ 4000000000000000000) : sM x k ≤ k + 4398200000000 := by
  have h1 := sG_bd hx.1 hk
  have h2 := mkSe_bd x.sessions (sG x.config k)
  have h3 := hx.2
  unfold sM
  omega
theorem seAt_ge {xs : List Session} (hr : risesS xs) (c : Int) : (0 ≤ seAt xs c ↔ hasS xs c = true) ∧ (hasS xs c = true → seAt xs c = lbS xs c) := by
  rw [seAt_eq hr]
  cases hasS xs c <;> simp
theorem old_at {m : Machine} (hr : risesS m.sessions) (x : Entry) : (decide (0 ≤ seAt m.sessions x.client) && decide (x.seq ≤ (m.sessions.getD (seAt m.sessions x.client).toNat zSession).seq)) = oldM m x := by
  obtain ⟨h1, h2⟩ := seAt_ge hr x.client
  unfold oldM
  cases h : hasS m.sessions x.client with
  | true =>
    have e := h2 h
    rw [e]
    simp
  | false =>
    have : ¬ 0 ≤ seAt m.sessions x.client := by rw [h1, h]; simp
    simp [this]
theorem hasS_lt {xs : List Session} {c : Int} (h : hasS xs c = true) : lbS xs c < xs.length := by
  simp only [hasS, Bool.and_eq_true, decide_eq_true_eq] at h
  exact h.1
theorem putS_has {xs : List Session} {s : Session} (h : hasS xs s.client = true) : (xs.map eSession).set (lbS xs s.client) (eSession s) = (putS xs s).map eSession := by
  have hl := hasS_lt h
  unfold putS
  rw [if_pos h, List.set_eq_take_append_cons_drop, if_pos (by simpa using hl)]
  simp
theorem ent_cmd {x : Entry} (h : entryFault x = 0) (hc : x.client ≠ 0) : cmdFault x.cmd = 0 := by
  unfold entryFault at h
  grind
theorem zMachine_ok : MaOk zMachine := ⟨cf_ok (by rfl), by simp [zMachine], fun i h => by simp [zMachine] at h, fun i _ h => by simp [zMachine] at h⟩
def freshM (r : MachineResult) : Bool := r.fresh && decide (r.reply = 0)
def addC (al : List Config) (r : MachineResult) : List Config := if freshM r = true then al ++ [r.machine.config] else al
def repR : List Entry → Machine → Int → List Config → MachineResult × List Config
  | [], m, rp, al => (⟨0, rp, false, m⟩, al)
  | x :: xs, m, rp, al =>
    if entryFault x ≠ 0 then (badM (entryFault x), []) else
    if (enterM m x).code ≠ 0 then (badM (enterM m x).code, []) else
    repR xs (enterM m x).machine (enterM m x).reply (addC al (enterM m x))
def replayM (xs : List Entry) : MachineResult × List Config := if 200 < xs.length then (badM 2, []) else repR xs zMachine 0 [zConfig]
theorem repR_drop {xs : List Entry} {i : Nat} (h : i < xs.length) (m : Machine) (rp : Int) (al : List Config) :
    repR (xs.drop i) m rp al = if entryFault (xs.getD i zEntry) ≠ 0 then (badM (entryFault (xs.getD i zEntry)), []) else
      if (enterM m (xs.getD i zEntry)).code ≠ 0 then (badM (enterM m (xs.getD i zEntry)).code, []) else
      repR (xs.drop (i + 1)) (enterM m (xs.getD i zEntry)).machine (enterM m (xs.getD i zEntry)).reply (addC al (enterM m (xs.getD i zEntry))) := by
  rw [drop_getD zEntry h, repR]
theorem repR_end (xs : List Entry) (m : Machine) (rp : Int) (al : List Config) : repR (xs.drop xs.length) m rp al = (⟨0, rp, false, m⟩, al) := by
  rw [List.drop_length, repR]
theorem enterM_code (m : Machine) (x : Entry) : (enterM m x).code = 0 ∨ enterM m x = badM 2 := by
  unfold enterM
  repeat' split
  · exact .inl rfl
  · exact .inl rfl
  · exact .inl rfl
  · exact .inr rfl
  · exact .inl rfl
  · exact .inl rfl
theorem enterM_bad {m : Machine} {x : Entry} (h : (enterM m x).code ≠ 0) : enterM m x = badM (enterM m x).code := by
  rcases enterM_code m x with h1 | h1
  · exact absurd h1 h
  · rw [h1]; rfl
theorem addC_len (al : List Config) (r : MachineResult) : (addC al r).length ≤ al.length + 1 := by
  unfold addC
  split <;> simp
structure MaP (m : Machine) : Prop where
  cf : configFault m.config = 0
  ok : MaOk m
  lim : limM 1048576 m
theorem pw_of {α : Type} (z : α) {R : α → α → Prop} (tr : ∀ a b c, R a b → R b c → R a c) : ∀ {xs : List α}, (∀ i, 0 < i → i < xs.length → R (xs.getD (i - 1) z) (xs.getD i z)) → xs.Pairwise R
  | [], _ => List.Pairwise.nil
  | [x], _ => by simp
  | x :: y :: ys, h => by
    have ih : (y :: ys).Pairwise R := pw_of z tr fun i h0 hi => by
      have := h (i + 1) (by omega) (by simpa using hi)
      obtain ⟨k, rfl⟩ : ∃ k, i = k + 1 := ⟨i - 1, by omega⟩
      simpa using this
    have hxy : R x y := by simpa using h 1 (by omega) (by simp)
    rw [List.pairwise_cons]
    refine ⟨fun w hw => ?_, ih⟩
    rcases List.mem_cons.1 hw with rfl | hw
    · exact hxy
    · exact tr _ _ _ hxy ((List.pairwise_cons.1 ih).1 w hw)
theorem of_pw {α : Type} (z : α) {R : α → α → Prop} {xs : List α} (h : xs.Pairwise R) (i : Nat) (h0 : 0 < i) (hi : i < xs.length) : R (xs.getD (i - 1) z) (xs.getD i z) := by
  rw [List.getD_eq_getElem?_getD, List.getD_eq_getElem?_getD, List.getElem?_eq_getElem hi, List.getElem?_eq_getElem (show i - 1 < xs.length by omega)]
  exact List.pairwise_iff_getElem.1 h (i - 1) i (by omega) hi (by omega)
theorem pw_put {α : Type} {R : α → α → Prop} {xs : List α} {b : α} {k : Nat} (h : xs.Pairwise R) (h1 : ∀ y ∈ xs.take k, R y b) (h2 : ∀ y ∈ xs.drop k, R b y) : (xs.take k ++ [b] ++ xs.drop k).Pairwise R := by
  have e : (xs.take k ++ xs.drop k).Pairwise R := by rw [List.take_append_drop]; exact h
  obtain ⟨p1, p2, p3⟩ := List.pairwise_append.1 e
  rw [List.append_assoc, List.pairwise_append]
  refine ⟨p1, ?_, fun a ha c hc => ?_⟩
  · rw [List.singleton_append, List.pairwise_cons]
    exact ⟨h2, p2⟩
  · rw [List.singleton_append] at hc
    rcases List.mem_cons.1 hc with rfl | hc
    · exact h1 a ha
    · exact p3 a ha c hc
theorem pw_cut {α : Type} {R : α → α → Prop} {xs : List α} (i : Nat) (h : xs.Pairwise R) : (cutG xs i).Pairwise R := by
  have e : (xs.take i ++ xs.drop i).Pairwise R := by rw [List.take_append_drop]; exact h
  obtain ⟨p1, p2, p3⟩ := List.pairwise_append.1 e
  unfold cutG
  have hs : (xs.drop (i + 1)).Sublist (xs.drop i) := by
    rw [← List.drop_drop]
    exact List.drop_sublist 1 _
  rw [List.pairwise_append]
  exact ⟨p1, p2.sublist hs, fun a ha c hc => p3 a ha c (hs.subset hc)⟩
theorem mem_getD {α : Type} (z : α) {xs : List α} {y : α} : y ∈ xs ↔ ∃ i, i < xs.length ∧ xs.getD i z = y := by
  constructor
  · intro h
    obtain ⟨j, hj, rfl⟩ := List.getElem_of_mem h
    exact ⟨j, hj, by rw [List.getD_eq_getElem?_getD, List.getElem?_eq_getElem hj, Option.getD_some]⟩
  · rintro ⟨i, hi, rfl⟩
    exact getD_mem z hi
theorem mem_preG {α : Type} {p : α → Bool} {xs : List α} {y : α} (h : y ∈ xs.take (preG p xs)) : p y = true := by
  unfold preG at h
  have e : xs.take (xs.takeWhile p).length = xs.takeWhile p := by
    obtain ⟨t, ht⟩ := List.takeWhile_prefix (p := p) (l := xs)
    conv => lhs; arg 2; rw [← ht]
    exact List.take_left' rfl
  rw [e] at h
  exact (List.all_takeWhile (p := p) (l := xs)) |> fun h2 => (List.all_eq_true.1 h2) _ h
theorem mem_drop_getD {α : Type} (z : α) {xs : List α} {k : Nat} {y : α} (h : y ∈ xs.drop k) : ∃ q, k ≤ q ∧ q < xs.length ∧ xs.getD q z = y := by
  obtain ⟨j, hj, rfl⟩ := List.getElem_of_mem h
  have hj2 : k + j < xs.length := by simp at hj; omega
  exact ⟨k + j, by omega, hj2, by rw [List.getD_eq_getElem?_getD, List.getElem?_eq_getElem hj2, Option.getD_some, ← List.getElem_drop (h := hj)]⟩
theorem findB_mem {bs : List Backend} {n : Int} : 0 ≤ findB bs n ↔ ∃ b ∈ bs, b.name = n := by
  unfold findB
  constructor
  · intro h
    obtain ⟨i, _, h2, h3, _⟩ := idxG_lt zBackend (q := isB n) (xs := bs) (by omega)
    exact ⟨_, getD_mem zBackend h2, by simpa [isB] using h3⟩
  · rintro ⟨b, hb, rfl⟩
    rcases idxG_cases zBackend (isB b.name) bs with ⟨h1, h2⟩ | ⟨i, h1, _⟩
    · obtain ⟨j, hj, e⟩ := (mem_getD zBackend).1 hb
      have := h2 j hj
      rw [e] at this
      simp [isB] at this
    · rw [h1]; omega
structure CfP (c : Config) : Prop where
  v0 : 0 ≤ c.version
  v1 : c.version ≤ 1000000
  b8 : c.backends.length ≤ 8
  v4 : c.vips.length ≤ 4
  bk : ∀ b ∈ c.backends, isBk b = true
  br : c.backends.Pairwise fun a b => a.name < b.name
  vp : ∀ v ∈ c.vips, isVp v = true
  vr : c.vips.Pairwise fun a b => behV a b = true
  nb : ∀ v ∈ c.vips, ∀ n ∈ v.names, ∃ b ∈ c.backends, b.name = n
  nr : ∀ v ∈ c.vips, v.names.Pairwise fun a b => a < b
theorem cf_p {c : Config} (K : CfOk c) : CfP c where
  v0 := K.v0
  v1 := K.v1
  b8 := K.b8
  v4 := K.v4
  bk b hb := by obtain ⟨i, hi, rfl⟩ := (mem_getD zBackend).1 hb; exact K.bk i hi
  br := pw_of (R := fun a b => a.name < b.name) zBackend (fun _ _ _ h1 h2 => Int.lt_trans h1 h2) K.br
  vp v hv := by obtain ⟨i, hi, rfl⟩ := (mem_getD zVip).1 hv; exact K.vp i hi
  vr := pw_of (R := fun a b => behV a b = true) zVip (fun _ _ _ h1 h2 => behV_trans h1 h2) K.vr
  nb v hv n hn := by
    obtain ⟨i, hi, rfl⟩ := (mem_getD zVip).1 hv
    have := K.nb i hi
    obtain ⟨j, hj, rfl⟩ := (mem_getD zI_i64).1 hn
    rcases idxG_cases zI_i64 (noB c.backends) (c.vips.getD i zVip).names with ⟨_, h2⟩ | ⟨k, h1, _⟩
    · have h3 := h2 j hj
      simp only [noB, decide_eq_false_iff_not] at h3
      exact findB_mem.1 (by omega)
    · simp only [hasG, h1, decide_eq_false_iff_not] at this
      omega
  nr v hv := by obtain ⟨i, hi, rfl⟩ := (mem_getD zVip).1 hv; exact pw_of (R := fun a b => a < b) zI_i64 (fun _ _ _ h1 h2 => Int.lt_trans h1 h2) (K.nr i hi)
theorem p_fault {c : Config} (K : CfP c) : configFault c = 0 := by
  have hv : inR c.version 0 1000000 = true := by
    have := K.v0; have := K.v1
    simp [inR]; omega
  have hb : scan (bkBad c.backends) c.backends.length 0 = 0 := by
    rw [scan_zero]
    intro j _ hj
    unfold bkBad
    rw [if_neg (by rw [K.bk _ (getD_mem zBackend hj)]; simp), if_neg]
    rintro ⟨h1, h2⟩
    have := of_pw zBackend K.br j h1 hj
    omega
  unfold configFault
  rw [if_neg (by rw [hv]; simp), if_neg (by have := K.b8; have := K.v4; omega), if_neg (by omega), scan_zero]
  intro i _ hi
  have hm := getD_mem zVip hi
  unfold vipBad
  rw [if_neg (by rw [K.vp _ hm]; simp), if_neg, if_neg]
  · rw [nmBad_zero]
    exact fun j h0 hj => of_pw zI_i64 (K.nr _ hm) j h0 hj
  · rw [hasG_false zI_i64 fun j hj => ?_]
    · simp
    · have := findB_mem.2 (K.nb _ hm _ (getD_mem zI_i64 hj))
      simp only [noB, decide_eq_false_iff_not]
      omega
  · rintro ⟨h1, h2⟩
    have := of_pw zVip K.vr i h1 hi
    rw [this] at h2
    cases h2
theorem pw_set {α : Type} (z : α) {R : α → α → Prop} {xs : List α} {i : Nat} {b : α} (h : xs.Pairwise R) (h1 : ∀ y, R y (xs.getD i z) → R y b) (h2 : ∀ y, R (xs.getD i z) y → R b y) : (xs.set i b).Pairwise R := by
  rw [List.pairwise_iff_getElem] at h ⊢
  intro p q hp hq hpq
  have hp' : p < xs.length := by simpa using hp
  have hq' : q < xs.length := by simpa using hq
  have := h p q hp' hq' hpq
  have e : ∀ (hi : i < xs.length), xs.getD i z = xs[i] := fun hi => by rw [List.getD_eq_getElem?_getD, List.getElem?_eq_getElem hi, Option.getD_some]
  rw [List.getElem_set, List.getElem_set]
  split
  · rename_i e1
    subst e1
    rw [if_neg (by omega)]
    exact h2 _ (by rw [e hp']; exact this)
  · split
    · rename_i e1
      subst e1
      exact h1 _ (by rw [e hq']; exact this)
    · exact this
theorem mem_set_of {α : Type} (z : α) {xs : List α} {i : Nat} {b y : α} (h : y ∈ xs) : y = xs.getD i z ∧ i < xs.length ∧ b ∈ xs.set i b ∨ y ∈ xs.set i b := by
  obtain ⟨j, hj, rfl⟩ := (mem_getD z).1 h
  by_cases e : j = i
  · subst e
    exact .inl ⟨rfl, hj, List.mem_iff_getElem.2 ⟨j, by simpa using hj, by simp⟩⟩
  · refine .inr (List.mem_iff_getElem.2 ⟨j, by simpa using hj, ?_⟩)
    rw [List.getElem_set_ne (fun h => e h.symm), List.getD_eq_getElem?_getD, List.getElem?_eq_getElem hj, Option.getD_some]
theorem cutG_of {α : Type} (z : α) {xs : List α} {i j : Nat} (hj : j < xs.length) (h : j ≠ i) : xs.getD j z ∈ cutG xs i := by
  unfold cutG
  rw [List.getD_eq_getElem?_getD, List.getElem?_eq_getElem hj, Option.getD_some, List.mem_append]
  rcases Nat.lt_or_gt_of_ne h with h | h
  · exact .inl (List.mem_take_iff_getElem.2 ⟨j, by omega, rfl⟩)
  · refine .inr (List.mem_drop_iff_getElem.2 ⟨j - (i + 1), by omega, ?_⟩)
    congr 1
    omega
theorem putG_old {α : Type} {p : α → Bool} {xs : List α} {b y : α} (h : y ∈ xs) : y ∈ putG p xs b := by
  unfold putG
  rw [← List.take_append_drop (preG p xs) xs] at h
  rcases List.mem_append.1 h with h | h
  · exact List.mem_append.2 (.inl (List.mem_append.2 (.inl h)))
  · exact List.mem_append.2 (.inr h)
theorem cmd_facts {x : Cmd} (h : cmdFault x = 0) : inR x.kind 1 9 = true ∧ (nd1 x.kind = true → inR x.name 1 999 = true) ∧ (nd2 x.kind = true → inR x.addr 0 4294967295 = true) ∧ (nd3 x.kind = true → isNum x = true) ∧ (nd4 x.kind = true → isPro x.proto = true) := by
  unfold cmdFault at h
  split at h
  · cases h
  rename_i h1
  split at h
  · cases h
  rename_i h2
  simp only [Bool.not_eq_true', Bool.not_eq_false, Bool.or_eq_true, Bool.and_eq_true, not_or, not_and] at h1 h2
  obtain ⟨⟨⟨⟨_, a1⟩, a2⟩, a3⟩, a4⟩ := h2
  exact ⟨h1, fun h => by simpa using a1 h, fun h => by simpa using a2 h, fun h => by simpa using a3 h, fun h => by simpa using a4 h⟩
theorem setB_p {c : Config} (P : CfP c) {i : Nat} {b : Backend} (hn : b.name = (c.backends.getD i zBackend).name) (hb : isBk b = true) : CfP (setB c i b) where
  v0 := P.v0
  v1 := P.v1
  b8 := by simpa [setB] using P.b8
  v4 := P.v4
  bk y hy := by
    rcases List.mem_or_eq_of_mem_set hy with h | h
    · exact P.bk y h
    · rw [h]; exact hb
  br := pw_set zBackend P.br (fun y h => by rw [hn]; exact h) (fun y h => by rw [hn]; exact h)
  vp := P.vp
  vr := P.vr
  nb v hv n hnm := by
    obtain ⟨y, hy, e⟩ := P.nb v hv n hnm
    rcases mem_set_of zBackend (i := i) (b := b) hy with ⟨h1, _, h3⟩ | h
    · exact ⟨b, h3, by rw [hn, ← h1]; exact e⟩
    · exact ⟨y, h, e⟩
  nr := P.nr
theorem bAt_lt {c : Config} {n : Int} (h : ¬ findB c.backends n < 0) : bAt c n < c.backends.length ∧ (c.backends.getD (bAt c n) zBackend).name = n := by
  obtain ⟨i, h1, h2, h3, _⟩ := idxG_lt zBackend h
  have e : bAt c n = i := by unfold bAt findB; rw [h1]; rfl
  rw [e]
  exact ⟨h2, by simpa [isB] using h3⟩
theorem turnB_p {c : Config} (K : CfOk c) {x : Cmd} (hf : cmdFault x = 0) (hk : x.kind = 1 ∨ x.kind = 2 ∨ x.kind = 3 ∨ x.kind = 4 ∨ x.kind = 9) : CfP (turnB c x).2 := by
  have P := cf_p K
  obtain ⟨f1, f2, f3, f4, _⟩ := cmd_facts hf
  have g2 : inR x.name 1 999 = true := f2 (by unfold nd1 inR; simp; omega)
  unfold turnB
  split
  · rename_i k1
    split
    · exact P
    split
    · exact P
    rename_i h1 h2
    have g3 := f3 (by unfold nd2; simp [k1])
    have g4 := f4 (by unfold nd3; simp [k1])
    have g5 : inR x.number 0 9 = true := by simpa [isNum, k1] using g4
    obtain ⟨q1, q2, q3, q4⟩ := put_b K (x := x) (by omega)
    refine ⟨P.v0, P.v1, by show (putG _ _ _).length ≤ 8; rw [putG_len]; omega, P.v4, fun y hy => ?_, ?_, P.vp, P.vr, fun v hv n hn => ?_, P.nr⟩
    · rcases putG_mem hy with h | h
      · exact P.bk y h
      · rw [h]; unfold isBk bOf; simp [g2, g3, g5]; decide
    · show (putG _ _ _).Pairwise _
      refine pw_put P.br (fun y hy => ?_) (fun y hy => ?_)
      · simpa [ltB, bOf] using mem_preG hy
      · obtain ⟨q, h3, h4, rfl⟩ := mem_drop_getD zBackend hy
        exact (cmpB_lt _ _).1 (q2 q h3 h4)
    · obtain ⟨y, hy, e⟩ := P.nb v hv n hn
      exact ⟨y, putG_old hy, e⟩
  split
  · exact P
  rename_i k1 hfb
  obtain ⟨a1, a2⟩ := bAt_lt hfb
  have hb := P.bk _ (getD_mem zBackend a1)
  simp only [isBk, Bool.and_eq_true] at hb
  split
  · rename_i k2
    have g4 := f4 (by unfold nd3; simp [k2])
    have g5 : inR x.number 0 9 = true := by simpa [isNum, k2] using g4
    exact setB_p P rfl (by unfold isBk; simp [-List.getD_eq_getElem?_getD, hb, g5])
  split
  · rename_i k2 k3
    have g4 := f4 (by unfold nd3; simp [k3])
    have g5 : inR x.number 1 3 = true := by simpa [isNum, k3] using g4
    exact setB_p P rfl (by unfold isBk; simp [-List.getD_eq_getElem?_getD, hb, g5])
  split
  · exact setB_p P rfl (by unfold isBk; simp [-List.getD_eq_getElem?_getD, hb])
  split
  · exact P
  split
  · exact P
  rename_i hs
  refine ⟨P.v0, P.v1, by have := cutG_len c.backends (bAt c x.name); have := P.b8; show (cutG _ _).length ≤ 8; omega, P.v4, fun y hy => P.bk y (cutG_mem hy), pw_cut _ P.br, P.vp, P.vr, fun v hv n hn => ?_, P.nr⟩
  obtain ⟨y, hy, e⟩ := P.nb v hv n hn
  obtain ⟨j, hj, rfl⟩ := (mem_getD zBackend).1 hy
  refine ⟨_, cutG_of zBackend hj fun e2 => hs ?_, e⟩
  subst e2
  rw [a2] at e
  subst e
  obtain ⟨i, hi, rfl⟩ := (mem_getD zVip).1 hv
  obtain ⟨k, hk, ek⟩ := (mem_getD zI_i64).1 hn
  exact hasG_true zVip hi (hasG_true zI_i64 hk (by simpa [eqI] using ek))
theorem vAt_lt {c : Config} {x : Cmd} (h : ¬ findV c.vips x.addr x.number x.proto < 0) : vAt c x < c.vips.length := by
  obtain ⟨i, h1, h2, _⟩ := idxG_lt zVip h
  have e : vAt c x = i := by unfold vAt findV; rw [h1]; rfl
  rw [e]
  exact h2
theorem setV_p {c : Config} (P : CfP c) {i : Nat} (hi : i < c.vips.length) {ns : List Int} (h1 : ∀ n ∈ ns, ∃ b ∈ c.backends, b.name = n) (h2 : ns.Pairwise fun a b => a < b) : CfP (setV c i { c.vips.getD i zVip with names := ns }) where
  v0 := P.v0
  v1 := P.v1
  b8 := P.b8
  v4 := by simpa [setV] using P.v4
  bk := P.bk
  br := P.br
  vp y hy := by
    rcases List.mem_or_eq_of_mem_set hy with h | h
    · exact P.vp y h
    · rw [h]
      have := P.vp _ (getD_mem zVip hi)
      exact this
  vr := pw_set zVip P.vr (fun y h => h) (fun y h => h)
  nb v hv := by
    rcases List.mem_or_eq_of_mem_set hv with h | h
    · exact P.nb v h
    · rw [h]; exact h1
  nr v hv := by
    rcases List.mem_or_eq_of_mem_set hv with h | h
    · exact P.nr v h
    · rw [h]; exact h2
theorem riseL_mem {xs : List Int} {v n : Int} (h : n ∈ riseL xs v) : n ∈ xs ∨ n = v := by
  unfold riseL at h
  split at h
  · exact .inl h
  · rcases List.mem_append.1 h with h | h
    · rcases List.mem_append.1 h with h | h
      · exact .inl (List.mem_of_mem_take h)
      · exact .inr (by simpa using h)
    · exact .inl (List.mem_of_mem_drop h)
theorem riseL_pw {xs : List Int} {v : Int} (hp : xs.Pairwise fun a b => a < b) : (riseL xs v).Pairwise fun a b => a < b := by
  unfold riseL
  split
  · exact hp
  rename_i hh
  have hr : rises xs := fun i h0 hi => of_pw zI_i64 hp i h0 hi
  refine pw_put hp (fun y hy => ?_) (fun y hy => ?_)
  · have : y ∈ xs.take (preG (fun x => decide (x < v)) xs) := hy
    simpa using mem_preG this
  · obtain ⟨q, h1, h2, rfl⟩ := mem_drop_getD zI_i64 hy
    have hlt : lbn xs v < xs.length := by omega
    have hat : (decide (xs.getD (lbn xs v) zI_i64 < v)) = false := preG_at zI_i64 (p := fun x => decide (x < v)) (xs := xs) hlt
    simp only [decide_eq_false_iff_not] at hat
    have hne : xs.getD (lbn xs v) zI_i64 ≠ v := fun e => hh (by simp only [hasI, Bool.and_eq_true, decide_eq_true_eq]; exact ⟨by omega, e⟩)
    by_cases e : q = lbn xs v
    · subst e; omega
    · have := rises_lt hr (i := lbn xs v) (j := q) (by omega) h2
      omega
theorem turnV_p {c : Config} (K : CfOk c) {x : Cmd} (hf : cmdFault x = 0) (hk : x.kind = 5 ∨ x.kind = 6 ∨ x.kind = 7 ∨ x.kind = 8) : CfP (turnV c x).2 := by
  have P := cf_p K
  obtain ⟨f1, f2, f3, f4, f5⟩ := cmd_facts hf
  have g3 := f3 (by unfold nd2 inR; simp; omega)
  have g5 := f5 (by unfold nd4 inR; simp; omega)
  unfold turnV
  split
  · rename_i k1
    split
    · exact P
    split
    · exact P
    rename_i h1 h2
    have g4 := f4 (by unfold nd3; simp [k1])
    have g6 : inR x.number 0 65535 = true := by simpa [isNum, k1] using g4
    obtain ⟨q1, q2, q3, q4⟩ := put_v K (x := x) (by omega)
    refine ⟨P.v0, P.v1, P.b8, by show (putG _ _ _).length ≤ 4; rw [putG_len]; omega, P.bk, P.br, fun y hy => ?_, ?_, fun v hv => ?_, fun v hv => ?_⟩
    · rcases putG_mem hy with h | h
      · exact P.vp y h
      · rw [h]; unfold isVp vOf; simp [g3, g5, g6]
    · show (putG _ _ _).Pairwise _
      refine pw_put P.vr (fun y hy => ?_) (fun y hy => ?_)
      · exact (mem_preG hy : ltV (vOf x) y = true)
      · obtain ⟨q, h3, h4, rfl⟩ := mem_drop_getD zVip hy
        exact (cmpV_neg _ _).1 (q2 q h3 h4)
    · rcases putG_mem hv with h | h
      · exact P.nb v h
      · rw [h]; intro n hn; simp [vOf] at hn
    · rcases putG_mem hv with h | h
      · exact P.nr v h
      · rw [h]; simp [vOf]
  split
  · exact P
  rename_i k1 hfv
  have hv := vAt_lt hfv
  have hm := getD_mem zVip hv
  split
  · exact ⟨P.v0, P.v1, P.b8, by have := cutG_len c.vips (vAt c x); have := P.v4; show (cutG _ _).length ≤ 4; omega, P.bk, P.br, fun y hy => P.vp y (cutG_mem hy), pw_cut _ P.vr, fun v hv => P.nb v (cutG_mem hv), fun v hv => P.nr v (cutG_mem hv)⟩
  split
  · split
    · exact P
    split
    · exact P
    rename_i hfb _
    refine setV_p P hv (fun n hn => ?_) (riseL_pw (P.nr _ hm))
    rcases riseL_mem hn with h | h
    · exact P.nb _ hm n h
    · rw [h]; exact findB_mem.1 (by omega)
  split
  · exact P
  exact setV_p P hv (fun n hn => P.nb _ hm n (cutG_mem hn)) (pw_cut _ (P.nr _ hm))
theorem applyR_p {c : Config} (K : CfOk c) {x : Cmd} (hf : cmdFault x = 0) (h : (applyR c x).code = 0) : CfP (applyR c x).config := by
  have hk := (cmd_facts hf).1
  simp only [inR, Bool.and_eq_true, decide_eq_true_eq] at hk
  have P : CfP (turned c x).2 := by
    unfold turned
    split
    · rename_i hi
      simp only [inR, Bool.and_eq_true, decide_eq_true_eq] at hi
      exact turnV_p K hf (by omega)
    · rename_i hi
      simp only [inR, Bool.and_eq_true, decide_eq_true_eq] at hi
      exact turnB_p K hf (by omega)
  have h0 := K.v0
  have h1 := K.v1
  unfold applyR at h ⊢
  split at h
  · cases h
  rename_i e1
  split at h
  · cases h
  rename_i e2
  split at h
  · rename_i e3; exact absurd h e3
  rename_i e3
  rw [if_neg e1, if_neg e2, if_neg e3]
  exact ⟨by show 0 ≤ c.version + 1; omega, by show c.version + 1 ≤ 1000000; omega, P.b8, P.v4, P.bk, P.br, P.vp, P.vr, P.nb, P.nr⟩
theorem applyR_code (c : Config) (x : Cmd) : 0 ≤ (applyR c x).code ∧ (applyR c x).code ≤ 10 := by
  have ht : 0 ≤ (turned c x).1 ∧ (turned c x).1 ≤ 10 := by
    unfold turned turnV turnB
    repeat' split
    all_goals (dsimp only; omega)
  unfold applyR
  repeat' split
  all_goals first
    | exact ht
    | (simp [badC]; done)
    | (simp; done)
theorem pw_len {lo hi : Int} : ∀ {xs : List Int}, xs.Pairwise (fun a b => a < b) → (∀ n ∈ xs, lo ≤ n ∧ n ≤ hi) → lo ≤ hi + 1 → (xs.length : Int) ≤ hi + 1 - lo
  | [], _, _, h => by simp; omega
  | y :: ys, hp, hm, h => by
    obtain ⟨p1, p2⟩ := List.pairwise_cons.1 hp
    have hy := hm y (by simp)
    have := pw_len (lo := y + 1) (hi := hi) p2 (fun n hn => ⟨by have := p1 n hn; omega, (hm n (by simp [hn])).2⟩) (by omega)
    simp only [List.length_cons, Int.natCast_add]
    omega
theorem cf_lim {c : Config} (P : CfP c) : limG 1048576 c := by
  refine ⟨by have := P.b8; omega, by have := P.v4; omega, fun v hv => ?_⟩
  have := pw_len (lo := 1) (hi := 999) (P.nr v hv) (fun n hn => by
    obtain ⟨b, hb, rfl⟩ := P.nb v hv n hn
    have := P.bk b hb
    simp only [isBk, inR, Bool.and_eq_true, decide_eq_true_eq] at this
    omega) (by omega)
  unfold limV
  omega
theorem putS_mem {xs : List Session} {s y : Session} (h : y ∈ putS xs s) : y ∈ xs ∨ y = s := by
  unfold putS at h
  rcases List.mem_append.1 h with h | h
  · exact .inl (List.mem_of_mem_take h)
  · rcases List.mem_cons.1 h with h | h
    · exact .inr h
    · exact .inl (List.mem_of_mem_drop h)
theorem putS_rises {xs : List Session} (hr : risesS xs) (s : Session) : risesS (putS xs s) := by
  have hp : xs.Pairwise fun a b => a.client < b.client := pw_of (R := fun a b => a.client < b.client) zSession (fun _ _ _ h1 h2 => Int.lt_trans h1 h2) hr
  have hlo : ∀ y ∈ xs.take (lbS xs s.client), y.client < s.client := fun y hy => by simpa [ltS] using mem_preG (p := ltS s.client) hy
  have e : (xs.take (lbS xs s.client) ++ xs.drop (lbS xs s.client)).Pairwise fun a b => a.client < b.client := by rw [List.take_append_drop]; exact hp
  obtain ⟨p1, p2, p3⟩ := List.pairwise_append.1 e
  have key : (putS xs s).Pairwise fun a b => a.client < b.client := by
    unfold putS
    split
    · rename_i hh
      have hl := hasS_lt hh
      have he : (xs.getD (lbS xs s.client) zSession).client = s.client := by
        simp only [hasS, Bool.and_eq_true, decide_eq_true_eq] at hh
        exact hh.2
      rw [drop_getD zSession hl] at p2 p3
      obtain ⟨p4, p5⟩ := List.pairwise_cons.1 p2
      rw [List.pairwise_append, List.pairwise_cons]
      refine ⟨p1, ⟨fun y hy => by rw [← he]; exact p4 y hy, p5⟩, fun a ha c hc => ?_⟩
      rcases List.mem_cons.1 hc with rfl | hc
      · exact hlo a ha
      · exact p3 a ha c (by simp [hc])
    · rename_i hh
      rw [List.pairwise_append, List.pairwise_cons]
      refine ⟨p1, ⟨fun y hy => ?_, p2⟩, fun a ha c hc => ?_⟩
      · obtain ⟨q, h1, h2, rfl⟩ := mem_drop_getD zSession hy
        have h3 := lbS_at (xs := xs) (c := s.client) (by omega)
        have hne : (xs.getD (lbS xs s.client) zSession).client ≠ s.client := fun e => hh (by simp only [hasS, Bool.and_eq_true, decide_eq_true_eq]; exact ⟨by omega, e⟩)
        by_cases e : q = lbS xs s.client
        · subst e; omega
        · have := risesS_lt hr (i := lbS xs s.client) (j := q) (by omega) h2
          omega
      · rcases List.mem_cons.1 hc with rfl | hc
        · exact hlo a ha
        · exact p3 a ha c hc
  exact fun i h0 hi => of_pw zSession key i h0 hi
theorem putS_length {xs : List Session} (s : Session) : (putS xs s).length = if hasS xs s.client = true then xs.length else xs.length + 1 := by
  have h0 := lbS_le xs s.client
  unfold putS
  split
  · rename_i h
    have := hasS_lt h
    simp
    omega
  · simp
    omega
theorem maP_zero : MaP zMachine := ⟨by rfl, zMachine_ok, zConfig_lim _, by simp [zMachine]⟩
theorem enterM_p {m : Machine} (P : MaP m) {x : Entry} (hx : entryFault x = 0) (hc : (enterM m x).code = 0) : MaP (enterM m x).machine := by
  have K := P.ok
  unfold enterM at hc ⊢
  split at hc
  · rename_i h; rw [if_pos h]; exact P
  rename_i h1
  split at hc
  · rename_i h; rw [if_neg h1, if_pos h]; exact P
  rename_i h2
  split at hc
  · cases hc
  rename_i h3
  rw [if_neg h1, if_neg h2, if_neg h3]
  have hcf := ent_cmd hx h1
  have hce := applyR_code m.config x.cmd
  have hxx : inR x.client 0 999 = true ∧ inR x.seq 0 1000000 = true ∧ (decide (x.client = 0) = decide (x.seq = 0)) := by
    unfold entryFault at hx
    grind
  obtain ⟨x1, x2, x3⟩ := hxx
  have x3 : x.seq ≠ 0 := fun e => h1 (by simpa [e] using x3)
  simp only [inR, Bool.and_eq_true, decide_eq_true_eq] at x1 x2
  have cfp : CfP (if (applyR m.config x.cmd).code = 0 then (applyR m.config x.cmd).config else m.config) := by
    split
    · rename_i h; exact applyR_p K.cf hcf h
    · exact cf_p K.cf
  have hf := p_fault cfp
  have hlen : (putS m.sessions ⟨x.client, x.seq, (applyR m.config x.cmd).code⟩).length ≤ 40 := by
    rw [putS_length]
    have := K.s40
    split
    · omega
    · rename_i h
      have h4 : hasS m.sessions x.client = false := by simpa using h
      have : ¬ 40 ≤ m.sessions.length := fun h5 => h3 ⟨h4, h5⟩
      omega
  refine ⟨hf, ⟨cf_ok hf, hlen, fun i hi => ?_, putS_rises K.rs _⟩, cf_lim cfp, Nat.le_trans hlen (by omega)⟩
  rcases putS_mem (getD_mem zSession hi) with h | h
  · obtain ⟨j, hj, e⟩ := (mem_getD zSession).1 h
    rw [← e]
    exact K.se j hj
  · rw [h]
    simp [isSe, inR]
    omega
def mC (x : Cmd) (k : Int) : Cmd := ⟨k, k + 1, k + 1 + 1, k + 1 + 1 + 1, k + 1 + 1 + 1 + 1, k + 1 + 1 + 1 + 1 + 1⟩
def mE (x : Entry) (k : Int) : Entry := ⟨k, k + 1, k + 1 + 1, mC x.cmd (k + 1 + 1 + 1)⟩
def sE (_ : Entry) (k : Int) : Int := k + 1 + 1 + 1 + 1 + 1 + 1 + 1 + 1 + 1
theorem sE_up (x : Entry) (k : Int) : k ≤ sE x k := by unfold sE; omega
theorem mkE_bd (xs : List Entry) (k : Int) : mkK sE xs k ≤ k + 9 * xs.length := mkK_bd (by omega) fun x _ k => by unfold sE; omega
def sC (_ : Cmd) (k : Int) : Int := k + 1 + 1 + 1 + 1 + 1 + 1
theorem sC_up (x : Cmd) (k : Int) : k ≤ sC x k := by unfold sC; omega
theorem mkC_bd (xs : List Cmd) (k : Int) : mkK sC xs k ≤ k + 6 * xs.length := mkK_bd (by omega) fun x _ k => by unfold sC; omega
theorem limM_mono {a b : Nat} (h : a ≤ b) {x : Machine} (hx : limM a x) : limM b x := ⟨limG_mono h hx.1, Nat.le_trans hx.2 h⟩
theorem replay_lim (xs : List Entry) : limM 1048577 (replayM xs).1.machine := by
  have hz : limM 1048577 zMachine := ⟨zConfig_lim _, by simp [zMachine]⟩
  have key : ∀ (xs : List Entry) (m : Machine) (rp : Int) (al : List Config), MaP m → limM 1048577 (repR xs m rp al).1.machine := by
    intro xs
    induction xs with
    | nil => intro m rp al P; exact ⟨limG_mono (by omega) P.lim.1, Nat.le_succ_of_le P.lim.2⟩
    | cons x xs ih =>
      intro m rp al P
      rw [repR]
      split
      · exact hz
      split
      · exact hz
      · rename_i h1 h2
        exact ih _ _ _ (enterM_p P (by omega) (by omega))
  unfold replayM
  split
  · exact hz
  · exact key _ _ _ _ maP_zero
def stepsR : List Cmd → Config → ConfigResult
  | [], c => ⟨0, c⟩
  | x :: xs, c => if cmdFault x ≠ 0 then badC (cmdFault x) else if (applyR c x).code ≠ 0 then badC (applyR c x).code else stepsR xs (applyR c x).config
theorem stepsR_drop {xs : List Cmd} {i : Nat} (h : i < xs.length) (c : Config) :
    stepsR (xs.drop i) c = if cmdFault (xs.getD i zCmd) ≠ 0 then badC (cmdFault (xs.getD i zCmd)) else if (applyR c (xs.getD i zCmd)).code ≠ 0 then badC (applyR c (xs.getD i zCmd)).code else stepsR (xs.drop (i + 1)) (applyR c (xs.getD i zCmd)).config := by
  rw [drop_getD zCmd h, stepsR]
theorem stepsR_end (xs : List Cmd) (c : Config) : stepsR (xs.drop xs.length) c = ⟨0, c⟩ := by rw [List.drop_length, stepsR]
theorem applyR_bad {c : Config} {x : Cmd} (h : (applyR c x).code ≠ 0) : applyR c x = badC (applyR c x).code := by
  unfold applyR at h ⊢
  repeat' split at h
  all_goals first
    | (rename_i h1; rw [if_pos h1]; rfl)
    | skip
  · rename_i h1 h2; rw [if_neg h1, if_pos h2]; rfl
  · rename_i h1 h2 h3; rw [if_neg h1, if_neg h2, if_pos h3]; rfl
  · rename_i h1 h2 h3; exact absurd rfl h
def badU (k : Int) : UpdateResult := ⟨k, zUpdate⟩
def badW (k : Int) : WatchResult := ⟨k, zWatch⟩
def stepU (c : Config) (xs : List Cmd) : UpdateResult :=
  if configFault c ≠ 0 then badU (configFault c) else if 20 < xs.length then badU 2 else
  if (stepsR xs c).code ≠ 0 then badU (stepsR xs c).code else ⟨0, ⟨c.version, (stepsR xs c).config.version, false, zConfig, xs⟩⟩
def cfgZero (c : Config) : Bool := decide (c.version = 0) && (decide (c.backends.length = 0) && decide (c.vips.length = 0))
def cmdBad (xs : List Cmd) (i : Nat) : Int := cmdFault (xs.getD i zCmd)
def updateFault (u : Update) : Int :=
  if !inR u.from_ 0 1000000 || !inR u.to_ 0 1000000 then 3 else
  if u.full = true then
    if u.from_ ≠ 0 ∨ 0 < u.cmds.length then 1 else
    if configFault u.config ≠ 0 then configFault u.config else if u.config.version ≠ u.to_ then 1 else 0
  else if cfgZero u.config = false then 1 else
  if 20 < u.cmds.length then 2 else
  if u.to_ - u.from_ ≠ u.cmds.length then 1 else scan (cmdBad u.cmds) u.cmds.length 0
def watchFault (w : Watch) : Int := if configFault w.config ≠ 0 then configFault w.config else if w.ready = false ∧ cfgZero w.config = false then 1 else 0
def takeW (w : Watch) (u : Update) : WatchResult :=
  if u.full = true then
    if w.ready = true ∧ u.to_ ≤ w.config.version then badW 9 else ⟨0, ⟨true, u.config⟩⟩
  else if w.ready = false then badW 10 else
  if u.to_ ≤ w.config.version then badW 9 else
  if u.from_ ≠ w.config.version then badW 4 else
  if (stepsR u.cmds w.config).code ≠ 0 then badW (stepsR u.cmds w.config).code else ⟨0, ⟨true, (stepsR u.cmds w.config).config⟩⟩
def takeU (w : Watch) (u : Update) : WatchResult :=
  if watchFault w ≠ 0 then badW (watchFault w) else if updateFault u ≠ 0 then badW (updateFault u) else takeW w u
theorem watch_cf {w : Watch} (h : watchFault w = 0) : configFault w.config = 0 := by
  unfold watchFault at h
  split at h
  · rename_i g; exact absurd h g
  · omega
theorem upd_cf {u : Update} (h : updateFault u = 0) (hf : u.full = true) : configFault u.config = 0 := by
  unfold updateFault at h
  grind
theorem cf_l {c : Config} (h : configFault c = 0) : limG 1048576 c := cf_lim (cf_p (cf_ok h))
theorem steps_cf : ∀ {xs : List Cmd} {c : Config}, configFault c = 0 → (stepsR xs c).code = 0 → configFault (stepsR xs c).config = 0
  | [], c, h, _ => h
  | x :: xs, c, h, hc => by
    rw [stepsR] at hc ⊢
    split at hc
    · rename_i h1; exact absurd hc h1
    split at hc
    · rename_i h1 h2; exact absurd hc h2
    rename_i h1 h2
    rw [if_neg h1, if_neg h2]
    exact steps_cf (p_fault (applyR_p (cf_ok h) (by omega) (by omega))) hc
theorem steps_bad : ∀ {xs : List Cmd} {c : Config}, (stepsR xs c).code ≠ 0 → stepsR xs c = badC (stepsR xs c).code
  | [], c, h => absurd rfl h
  | x :: xs, c, h => by
    rw [stepsR] at h ⊢
    split
    · rfl
    split
    · rfl
    rename_i h1 h2
    rw [if_neg h1, if_neg h2] at h
    exact steps_bad h
theorem steps_lim {xs : List Cmd} {c : Config} (h : configFault c = 0) : limG 1048576 (stepsR xs c).config := by
  by_cases hc : (stepsR xs c).code = 0
  · exact cf_l (steps_cf h hc)
  · rw [steps_bad hc]; exact zConfig_lim _
def limU (b : Nat) (u : Update) : Prop := limG b u.config ∧ u.cmds.length ≤ b
theorem stepU_lim {c : Config} {xs : List Cmd} {b : Nat} (h : xs.length ≤ b) : limU b (stepU c xs).update := by
  have hz : limU b zUpdate := ⟨zConfig_lim _, by simp [zUpdate]⟩
  unfold stepU
  repeat' split
  · exact hz
  · exact hz
  · exact hz
  · exact ⟨zConfig_lim _, h⟩
theorem takeW_cf {w : Watch} {u : Update} (hw : watchFault w = 0) (hu : updateFault u = 0) (h : (takeW w u).code = 0) : watchFault (takeW w u).watch = 0 := by
  have k1 := watch_cf hw
  unfold takeW at h ⊢
  split at h
  · rename_i e1
    rw [if_pos e1]
    split at h
    · cases h
    rename_i e2
    rw [if_neg e2]
    have := upd_cf hu e1
    unfold watchFault
    simp [this]
  rename_i e1
  rw [if_neg e1]
  split at h
  · cases h
  rename_i e2
  split at h
  · cases h
  rename_i e3
  split at h
  · cases h
  rename_i e4
  split at h
  · rename_i e5; exact absurd h e5
  rename_i e5
  rw [if_neg e2, if_neg e3, if_neg e4, if_neg e5]
  have := steps_cf k1 (xs := u.cmds) (by omega)
  unfold watchFault
  simp [this]
theorem takeW_lim {w : Watch} {u : Update} (hw : watchFault w = 0) (hu : updateFault u = 0) : limG 1048576 (takeW w u).watch.config := by
  have k1 := watch_cf hw
  unfold takeW
  split
  · rename_i e1
    split
    · exact zConfig_lim _
    · exact cf_l (upd_cf hu e1)
  repeat' split
  · exact zConfig_lim _
  · exact zConfig_lim _
  · exact zConfig_lim _
  · exact zConfig_lim _
  · exact steps_lim k1
theorem takeU_lim (w : Watch) (u : Update) : limG 1048576 (takeU w u).watch.config := by
  unfold takeU
  split
  · exact zConfig_lim _
  split
  · exact zConfig_lim _
  · exact takeW_lim (by omega) (by omega)
def szUpdate (x : Update) (l : Int) : Int := szT (szConfig x.config l) fun l => szT (szL x.cmds.length l) fun l => l
theorem szUpdate_lo (x : Update) (l : Int) (h : l ≤ 1048576) : -1 ≤ szUpdate x l ∧ szUpdate x l ≤ 1048576 :=
  ⟨szT_lo fun _ => szT_lo fun _ => szL_lo .., szT_hi (by omega) (szT_hi (by omega) (szL_hi (szConfig_lo x.config l h).2 (by omega)))⟩
theorem szUpdate_lim {x : Update} {l : Int} (h : 0 ≤ szUpdate x l) (hl : l ≤ 1048576) : limU 1048576 x := by
  unfold szUpdate at h
  obtain ⟨a1, a2, _⟩ := szT_ge h
  obtain ⟨b1, b2, _⟩ := szT_ge a2
  have h2 := (szConfig_lo x.config l hl).2
  have e1 := szL_ge b1
  exact ⟨szConfig_lim a1 hl, by omega⟩
def szWatch (x : Watch) (l : Int) : Int := szT (szConfig x.config l) fun l => l
theorem szWatch_eq (x : Watch) (l : Int) (h : l ≤ 1048576) : szWatch x l = szConfig x.config l := by
  have := (szConfig_lo x.config l h).1
  unfold szWatch szT
  split
  · omega
  · rfl
def mU (x : Update) (k : Int) : Update := ⟨x.from_, x.to_, x.full, mG x.config k, mkL mC sC x.cmds (sG x.config k)⟩
def sU (x : Update) (k : Int) : Int := mkK sC x.cmds (sG x.config k)
theorem sU_up (x : Update) (k : Int) : k ≤ sU x k := by
  have h1 := sG_up x.config k
  have h2 := mkK_mono sC_up x.cmds (sG x.config k)
  unfold sU; omega
theorem sU_bd {x : Update} (hx : limU 2097152 x) {k : Int} (hk : k ≤ 4000000000000000000) : sU x k ≤ k + 4398200000000 := by
  have h1 := sG_bd hx.1 hk
  have h2 := mkC_bd x.cmds (sG x.config k)
  have h3 := hx.2
  unfold sU
  omega
theorem limU_mono {a b : Nat} (h : a ≤ b) {x : Update} (hx : limU a x) : limU b x := ⟨limG_mono h hx.1, Nat.le_trans hx.2 h⟩
end Go.H
end
section
set_option maxRecDepth 100000
set_option maxHeartbeats 4000000
set_option cbv.maxSteps 4000000
set_option linter.unusedVariables false
set_option linter.unusedSimpArgs false
namespace Go.H
open Go Go.Proofs.Tryz
variable [Inv prog]
theorem s_laws_szWatch (x : Watch) (l : Int) (h0 : -1 ≤ l) (h1 : l ≤ 1048576) (hb : x.config.backends.length ≤ 9223372036854775807) (hv : x.config.vips.length ≤ 9223372036854775807) (hV : ∀ i < x.config.vips.length, (x.config.vips.getD i zVip).names.length ≤ 9223372036854775807) : SemX prog 52 [aS (eWatch false x), aI l] [] [rI (szWatch x l)] [] := by
 refine goF [] [] [] func52 ?_
 refine D ?_
 refine kR (s_laws_szConfig x.config l h0 h1 hb hv hV) ?_
 refine D ?_
 refine cC (fun c0 => ?_) (fun c0 => ?_)
 · skip
   refine D ?_
   refine E ?_
   first
   | exact trivial
   | simp [szWatch, szT, *]
 · skip
   refine D ?_
   refine E ?_
   first
   | exact trivial
   | simp [szWatch, szT, *]
end Go.H
end
section
set_option linter.unusedVariables false
set_option linter.unusedSimpArgs false
namespace Go.H
open Go
def takeAll : List Update → Watch → Watch
  | [], w => w
  | u :: us, w => takeAll us (if (takeU w u).code = 0 then (takeU w u).watch else w)
def takeMany (w : Watch) (us : List Update) : WatchResult := if watchFault w ≠ 0 then badW (watchFault w) else if 40 < us.length then badW 2 else ⟨0, takeAll us w⟩
theorem takeAll_drop {us : List Update} {i : Nat} (h : i < us.length) (w : Watch) : takeAll (us.drop i) w = takeAll (us.drop (i + 1)) (if (takeU w (us.getD i zUpdate)).code = 0 then (takeU w (us.getD i zUpdate)).watch else w) := by
  rw [drop_getD zUpdate h, takeAll]
theorem takeAll_end (us : List Update) (w : Watch) : takeAll (us.drop us.length) w = w := by rw [List.drop_length, takeAll]
theorem takeU_ok {w : Watch} {u : Update} (hw : watchFault w = 0) (h : (takeU w u).code = 0) : watchFault (takeU w u).watch = 0 := by
  unfold takeU at h ⊢
  split at h
  · rename_i h1; exact absurd hw h1
  rename_i h1
  split at h
  · rename_i h2; exact absurd h h2
  rename_i h2
  rw [if_neg h1, if_neg h2]
  exact takeW_cf hw (by omega) h
theorem takeAll_ok : ∀ {us : List Update} {w : Watch}, watchFault w = 0 → watchFault (takeAll us w) = 0
  | [], w, h => h
  | u :: us, w, h => by
    rw [takeAll]
    refine takeAll_ok ?_
    split
    · rename_i h1; exact takeU_ok h h1
    · exact h
theorem takeMany_lim (w : Watch) (us : List Update) : limG 1048576 (takeMany w us).watch.config := by
  unfold takeMany
  split
  · exact zConfig_lim _
  split
  · exact zConfig_lim _
  · exact cf_l (watch_cf (takeAll_ok (by omega)))
def szUs : List Update → Int → Int
  | [], l => l
  | x :: xs, l => szT (szUpdate x l) (szUs xs)
def szUps (xs : List Update) (l : Int) : Int := szT (szL xs.length l) (szUs xs)
theorem szUs_lim : ∀ {xs : List Update} {l : Int}, 0 ≤ szUs xs l → l ≤ 1048576 → ∀ y ∈ xs, limU 1048576 y
  | [], _, _, _ => by simp
  | x :: xs, l, h, hl => by
    obtain ⟨a1, a2, _⟩ := szT_ge h
    have b1 := szUpdate_lim a1 hl
    intro y hy
    rcases List.mem_cons.1 hy with rfl | hy
    · exact b1
    · exact szUs_lim a2 (szUpdate_lo x l hl).2 y hy
theorem szUps_lim {xs : List Update} {l : Int} (h : 0 ≤ szUps xs l) (hl : l ≤ 1048576) : xs.length ≤ 1048576 ∧ ∀ y ∈ xs, limU 1048576 y := by
  unfold szUps at h
  obtain ⟨a1, a2, _⟩ := szT_ge h
  have e1 := szL_ge a1
  exact ⟨by omega, szUs_lim a2 (szL_hi hl (by omega))⟩
def mUs (x : Update) (k : Int) : Update :=
  ⟨k, k + 1, decide ((k + 1 + 1).tmod 3 = 0), ⟨k + 1 + 1 + 1, mkL mB sB x.config.backends (k + 1 + 1 + 1 + 1), mkL mV sV x.config.vips (mkK sB x.config.backends (k + 1 + 1 + 1 + 1))⟩,
    mkL mC sC x.cmds (mkK sV x.config.vips (mkK sB x.config.backends (k + 1 + 1 + 1 + 1)))⟩
def sUs (x : Update) (k : Int) : Int := mkK sC x.cmds (mkK sV x.config.vips (mkK sB x.config.backends (k + 1 + 1 + 1 + 1)))
theorem sUs_up (x : Update) (k : Int) : k ≤ sUs x k := by
  have h1 := mkK_mono sB_up x.config.backends (k + 1 + 1 + 1 + 1)
  have h2 := mkK_mono sV_up x.config.vips (mkK sB x.config.backends (k + 1 + 1 + 1 + 1))
  have h3 := mkK_mono sC_up x.cmds (mkK sV x.config.vips (mkK sB x.config.backends (k + 1 + 1 + 1 + 1)))
  unfold sUs; omega
theorem sUs_bd {x : Update} (hx : limU 1048576 x) (k : Int) : sUs x k ≤ k + 1099530000000 := by
  have h1 := mkB_bd x.config.backends (k + 1 + 1 + 1 + 1)
  have h2 := mkV_bd hx.1.2.2 (mkK sB x.config.backends (k + 1 + 1 + 1 + 1))
  have h3 := mkC_bd x.cmds (mkK sV x.config.vips (mkK sB x.config.backends (k + 1 + 1 + 1 + 1)))
  have h4 := hx.1.1
  have h5 := hx.1.2.1
  have h6 := hx.2
  have h7 : (((1048576 : Nat) : Int) + 3) * x.config.vips.length ≤ (((1048576 : Nat) : Int) + 3) * 1048576 := Int.mul_le_mul_of_nonneg_left (by omega) (by omega)
  unfold sUs
  omega
theorem mkU_bd {xs : List Update} (h : ∀ y ∈ xs, limU 1048576 y) (hl : xs.length ≤ 1048576) {k : Int} : mkK sUs xs k ≤ k + 1160000000000000000 := by
  have h1 : mkK sUs xs k ≤ k + 1099530000000 * xs.length := mkK_bd (by omega) fun x hx k => sUs_bd (h x hx) k
  omega
def mCf (x : Config) (k : Int) : Config := ⟨k, mkL mB sB x.backends (k + 1), mkL mV sV x.vips (mkK sB x.backends (k + 1))⟩
def sCf (x : Config) (k : Int) : Int := mkK sV x.vips (mkK sB x.backends (k + 1))
theorem sCf_up (x : Config) (k : Int) : k ≤ sCf x k := by
  have h1 := mkK_mono sB_up x.backends (k + 1)
  have h2 := mkK_mono sV_up x.vips (mkK sB x.backends (k + 1))
  unfold sCf; omega
theorem sCf_bd {x : Config} (hx : limG 1048577 x) (k : Int) : sCf x k ≤ k + 1099530000000 := by
  have h1 := mkB_bd x.backends (k + 1)
  have h2 := mkV_bd hx.2.2 (mkK sB x.backends (k + 1))
  have h4 := hx.1
  have h5 := hx.2.1
  have h7 : (((1048577 : Nat) : Int) + 3) * x.vips.length ≤ (((1048577 : Nat) : Int) + 3) * 1048577 := Int.mul_le_mul_of_nonneg_left (by omega) (by omega)
  unfold sCf
  omega
theorem mkCf_bd {xs : List Config} (h : ∀ y ∈ xs, limG 1048577 y) (hl : xs.length ≤ 1048576) {k : Int} : mkK sCf xs k ≤ k + 1160000000000000000 := by
  have h1 : mkK sCf xs k ≤ k + 1099530000000 * xs.length := mkK_bd (by omega) fun x hx k => sCf_bd (h x hx) k
  omega
def repA : List Entry → Machine → List Config → List Config
  | [], m, al => al
  | x :: xs, m, al => if entryFault x ≠ 0 then al else if (enterM m x).code ≠ 0 then al else repA xs (enterM m x).machine (addC al (enterM m x))
def replayA (xs : List Entry) : List Config := if 200 < xs.length then [zConfig] else repA xs zMachine [zConfig]
theorem repA_drop {xs : List Entry} {i : Nat} (h : i < xs.length) (m : Machine) (al : List Config) :
    repA (xs.drop i) m al = if entryFault (xs.getD i zEntry) ≠ 0 then al else if (enterM m (xs.getD i zEntry)).code ≠ 0 then al else repA (xs.drop (i + 1)) (enterM m (xs.getD i zEntry)).machine (addC al (enterM m (xs.getD i zEntry))) := by
  rw [drop_getD zEntry h, repA]
theorem repA_end (xs : List Entry) (m : Machine) (al : List Config) : repA (xs.drop xs.length) m al = al := by rw [List.drop_length, repA]
theorem repA_R : ∀ {xs : List Entry} {m : Machine} {rp : Int} {al : List Config}, (repR xs m rp al).1.code = 0 → (repR xs m rp al).2 = repA xs m al
  | [], _, _, _, _ => rfl
  | x :: xs, m, rp, al, h => by
    rw [repR] at h ⊢
    rw [repA]
    split at h
    · rename_i h1; exact absurd h h1
    split at h
    · rename_i h1 h2; exact absurd h h2
    rename_i h1 h2
    rw [if_neg h1, if_neg h2, if_neg h1, if_neg h2]
    exact repA_R h
theorem replayA_eq {xs : List Entry} (h : (replayM xs).1.code = 0) : (replayM xs).2 = replayA xs := by
  unfold replayM at h ⊢
  unfold replayA
  split at h
  · cases h
  · rename_i h1
    rw [if_neg h1, if_neg h1]
    exact repA_R h
theorem repR_lim : ∀ {xs : List Entry} {m : Machine} {rp : Int} {al : List Config}, MaP m → (∀ y ∈ al, limG 1048576 y) → (∀ y ∈ (repR xs m rp al).2, limG 1048576 y) ∧ (repR xs m rp al).2.length ≤ al.length + xs.length
  | [], m, rp, al, P, h => ⟨h, by simp [repR]⟩
  | x :: xs, m, rp, al, P, h => by
    rw [repR]
    split
    · exact ⟨by simp, by simp⟩
    split
    · exact ⟨by simp, by simp⟩
    rename_i h1 h2
    have P2 := enterM_p P (x := x) (by omega) (by omega)
    obtain ⟨a1, a2⟩ := repR_lim (xs := xs) (rp := (enterM m x).reply) (al := addC al (enterM m x)) P2 (fun y hy => by
      unfold addC at hy
      split at hy
      · rcases List.mem_append.1 hy with hy | hy
        · exact h y hy
        · rw [List.mem_singleton] at hy
          rw [hy]
          exact P2.lim.1
      · exact h y hy)
    have := addC_len al (enterM m x)
    exact ⟨a1, by simp only [List.length_cons]; omega⟩
theorem replay_al (xs : List Entry) : (∀ y ∈ (replayM xs).2, limG 1048576 y) ∧ (replayM xs).2.length ≤ 201 := by
  unfold replayM
  split
  · exact ⟨by simp, by simp⟩
  · rename_i h
    obtain ⟨a1, a2⟩ := repR_lim (xs := xs) (rp := 0) (al := [zConfig]) maP_zero (fun y hy => by rw [List.mem_singleton] at hy; rw [hy]; exact zConfig_lim _)
    simp only [List.length_singleton] at a2
    exact ⟨a1, by omega⟩
def restI (n by_ : Int) : Int := (n.tmod by_ + by_).tmod by_
def mixS : Nat → Int → Int → Int
  | 0, h, _ => h
  | k + 1, h, n => mixS k ((h * 131 + n.tmod 256 + 1).tmod 1000003) (n.tdiv 256)
def mix (n salt : Int) : Int := mixS 4 (restI salt 10007 + 11) (restI n 4294967296)
theorem restI_bd {n b : Int} (hb : 0 < b) : 0 ≤ restI n b ∧ restI n b < b := by
  unfold restI
  have h1 := Int.tmod_lt_of_pos n hb
  have h2 : -b < n.tmod b := by
    have := Int.neg_lt_of_neg_lt (a := b) (b := n.tmod b)
    have h3 := Int.tmod_lt_of_pos (-n) hb
    rw [Int.neg_tmod] at h3
    omega
  have h4 : 0 ≤ n.tmod b + b := by omega
  exact ⟨Int.tmod_nonneg _ h4, Int.tmod_lt_of_pos _ hb⟩
theorem mixS_bd : ∀ {k : Nat} {h n : Int}, 0 ≤ h → h < 1000003 → 0 ≤ n → 0 ≤ mixS k h n ∧ mixS k h n < 1000003
  | 0, h, n, h1, h2, _ => ⟨h1, h2⟩
  | k + 1, h, n, h1, h2, h3 => by
    have e1 : 0 ≤ n.tmod 256 := Int.tmod_nonneg _ h3
    have e2 := Int.tmod_lt_of_pos n (show (0 : Int) < 256 by omega)
    rw [mixS]
    refine mixS_bd (Int.tmod_nonneg _ (by omega)) (Int.tmod_lt_of_pos _ (by omega)) ?_
    exact Int.tdiv_nonneg h3 (by omega)
theorem mix_bd (n salt : Int) : 0 ≤ mix n salt ∧ mix n salt < 1000003 := by
  have h1 := restI_bd (n := salt) (b := 10007) (by omega)
  have h2 := restI_bd (n := n) (b := 4294967296) (by omega)
  exact mixS_bd (by omega) (by omega) h2.1
def offI (name : Int) : Int := (mix name 3).tmod 31
def skipI (name : Int) : Int := 1 + (mix name 5).tmod 30
def placeI (name : Int) (k : Int) : Int := (offI name + k * skipI name).tmod 31
theorem offI_bd (name : Int) : 0 ≤ offI name ∧ offI name < 31 := ⟨Int.tmod_nonneg _ (mix_bd name 3).1, Int.tmod_lt_of_pos _ (by omega)⟩
theorem skipI_bd (name : Int) : 1 ≤ skipI name ∧ skipI name < 31 := by
  have h1 : 0 ≤ (mix name 5).tmod 30 := Int.tmod_nonneg _ (mix_bd name 5).1
  have h2 := Int.tmod_lt_of_pos (mix name 5) (show (0 : Int) < 30 by omega)
  unfold skipI
  omega
theorem placeI_bd (name : Int) {k : Int} (h : 0 ≤ k) : 0 ≤ placeI name k ∧ placeI name k < 31 := by
  have h1 := offI_bd name
  have h2 := skipI_bd name
  have h3 : 0 ≤ k * skipI name := Int.mul_nonneg h (by omega)
  exact ⟨Int.tmod_nonneg _ (by omega), Int.tmod_lt_of_pos _ (by omega)⟩
theorem inv31 : ∀ s : Fin 31, 0 < s.val → ∃ t : Fin 31, s.val * t.val % 31 = 1 := by decide
theorem placeI_all (name : Int) {p : Nat} (hp : p < 31) : ∃ k : Nat, k < 31 ∧ placeI name k = p := by
  obtain ⟨o1, o2⟩ := offI_bd name
  obtain ⟨s1, s2⟩ := skipI_bd name
  obtain ⟨o, ho⟩ : ∃ o : Nat, offI name = o := ⟨(offI name).toNat, by omega⟩
  obtain ⟨s, hs⟩ : ∃ s : Nat, skipI name = s := ⟨(skipI name).toNat, by omega⟩
  obtain ⟨t, ht⟩ := inv31 ⟨s, by omega⟩ (by show 0 < s; omega)
  refine ⟨((p + 31 - o) * t.val) % 31, Nat.mod_lt _ (by omega), ?_⟩
  unfold placeI
  rw [ho, hs, Int.tmod_eq_emod_of_nonneg (by
    have : (0 : Int) ≤ ((((p + 31 - o) * t.val) % 31 : Nat) : Int) * (s : Int) := Int.mul_nonneg (by omega) (by omega)
    omega)]
  have ht2 : s * t.val % 31 = 1 := ht
  have e : ((o : Int) + ((((p + 31 - o) * t.val) % 31 : Nat) : Int) * (s : Int)) % 31 = ((o + ((p + 31 - o) * t.val) % 31 * s : Nat) : Int) % 31 := by push_cast; rfl
  rw [e]
  have e2 : (o + ((p + 31 - o) * t.val) % 31 * s) % 31 = p := by
    have a1 : ((p + 31 - o) * t.val) % 31 * s % 31 = (p + 31 - o) % 31 := by
      rw [Nat.mod_mul_mod, Nat.mul_assoc, Nat.mul_comm t.val s, Nat.mul_mod, ht2, Nat.mul_one, Nat.mod_mod]
    rw [Nat.add_mod, a1]
    omega
  omega
def freeK (t : List Int) (name : Int) : Nat → Nat → Option Nat
  | 0, _ => none
  | n + 1, k => if t.getD (placeI name k).toNat 0 = 0 then some k else freeK t name n (k + 1)
def freeP (t : List Int) (name : Int) : Option Nat := freeK t name 31 0
def putT (t : List Int) (name : Int) : List Int := match freeP t name with
  | none => t
  | some k => t.set (placeI name k).toNat name
theorem freeK_some {t : List Int} {name : Int} : ∀ {n k j : Nat}, freeK t name n k = some j → k ≤ j ∧ j < k + n ∧ t.getD (placeI name j).toNat 0 = 0 ∧ ∀ i, k ≤ i → i < j → t.getD (placeI name i).toNat 0 ≠ 0
  | 0, k, j, h => by simp [freeK] at h
  | n + 1, k, j, h => by
    rw [freeK] at h
    split at h
    · rename_i h1
      cases h
      exact ⟨Nat.le_refl _, by omega, h1, fun i a b => by omega⟩
    · rename_i h1
      obtain ⟨a1, a2, a3, a4⟩ := freeK_some h
      exact ⟨by omega, by omega, a3, fun i b1 b2 => by
        by_cases e : i = k
        · subst e; exact h1
        · exact a4 i (by omega) b2⟩
theorem freeK_none {t : List Int} {name : Int} : ∀ {n k : Nat}, freeK t name n k = none → ∀ i, k ≤ i → i < k + n → t.getD (placeI name i).toNat 0 ≠ 0
  | 0, k, h, i, a, b => by omega
  | n + 1, k, h, i, a, b => by
    rw [freeK] at h
    split at h
    · cases h
    · rename_i h1
      by_cases e : i = k
      · subst e; exact h1
      · exact freeK_none h i (by omega) (by omega)
theorem freeP_some {t : List Int} {name : Int} {k : Nat} (h : freeP t name = some k) : k < 31 ∧ t.getD (placeI name k).toNat 0 = 0 ∧ ∀ i, i < k → t.getD (placeI name i).toNat 0 ≠ 0 := by
  obtain ⟨_, a2, a3, a4⟩ := freeK_some h
  exact ⟨by omega, a3, fun i hi => a4 i (by omega) hi⟩
theorem freeP_eq {t : List Int} {name : Int} {k : Nat} (hk : k < 31) (h1 : t.getD (placeI name k).toNat 0 = 0) (h2 : ∀ i, i < k → t.getD (placeI name i).toNat 0 ≠ 0) : freeP t name = some k := by
  cases h : freeP t name with
  | none => exact absurd h1 (freeK_none h k (by omega) (by omega))
  | some j =>
    obtain ⟨b1, b2, b3⟩ := freeP_some h
    rcases Nat.lt_trichotomy j k with e | e | e
    · exact absurd b2 (h2 j e)
    · rw [e]
    · exact absurd h1 (b3 k e)
def freeN_ (t : List Int) : Nat := (t.filter fun x => decide (x = 0)).length
theorem freeP_none {t : List Int} {name : Int} (hl : t.length = 31) (h : freeP t name = none) : freeN_ t = 0 := by
  unfold freeN_
  rw [List.length_eq_zero_iff, List.filter_eq_nil_iff]
  intro x hx
  obtain ⟨p, hp, rfl⟩ := List.getElem_of_mem hx
  obtain ⟨k, hk, e⟩ := placeI_all name (p := p) (by omega)
  have := freeK_none h k (by omega) (by omega)
  rw [e] at this
  simp only [decide_eq_true_eq]
  intro e2
  apply this
  show t.getD p 0 = 0
  rw [List.getD_eq_getElem?_getD, List.getElem?_eq_getElem hp, Option.getD_some, e2]
theorem freeN_set : ∀ {t : List Int} {p : Nat} {n : Int}, n ≠ 0 → p < t.length → t.getD p 0 = 0 → freeN_ (t.set p n) + 1 = freeN_ t
  | [], p, n, _, h, _ => by simp at h
  | x :: t, 0, n, hn, _, h0 => by
    simp only [List.getD_cons_zero] at h0
    unfold freeN_
    simp [h0, hn]
  | x :: t, p + 1, n, hn, hp, h0 => by
    have := freeN_set (t := t) (p := p) hn (by simpa using hp) (by simpa using h0)
    unfold freeN_ at *
    rw [List.set_cons_succ]
    by_cases e : x = 0
    · simp [e]; omega
    · simp [e]; omega
theorem putT_len (t : List Int) (name : Int) : (putT t name).length = t.length := by
  unfold putT
  split <;> simp
theorem putT_full {t : List Int} {name : Int} (hl : t.length = 31) (h : freeN_ t = 0) : putT t name = t := by
  unfold putT
  cases hf : freeP t name with
  | none => rfl
  | some k =>
    exfalso
    obtain ⟨a1, a2, _⟩ := freeP_some hf
    have hb := placeI_bd name (k := (k : Int)) (by omega)
    unfold freeN_ at h
    rw [List.length_eq_zero_iff, List.filter_eq_nil_iff] at h
    have hp : (placeI name k).toNat < t.length := by omega
    have := h _ (List.getElem_mem hp)
    rw [List.getD_eq_getElem?_getD, List.getElem?_eq_getElem hp, Option.getD_some] at a2
    simp [a2] at this
theorem putT_free {t : List Int} {name : Int} (hn : name ≠ 0) (hl : t.length = 31) (h : freeN_ t ≠ 0) : ∃ k, freeP t name = some k ∧ putT t name = t.set (placeI name k).toNat name ∧ freeN_ (putT t name) + 1 = freeN_ t := by
  cases hf : freeP t name with
  | none => exact absurd (freeP_none hl hf) h
  | some k =>
    obtain ⟨a1, a2, _⟩ := freeP_some hf
    have hb := placeI_bd name (k := (k : Int)) (by omega)
    have e : putT t name = t.set (placeI name k).toNat name := by unfold putT; rw [hf]
    exact ⟨k, rfl, e, by rw [e]; exact freeN_set hn (by omega) a2⟩
theorem foldT_len : ∀ (l : List Int) (t : List Int), (l.foldl putT t).length = t.length
  | [], t => rfl
  | n :: l, t => by rw [List.foldl_cons, foldT_len l, putT_len]
theorem foldT_full : ∀ {l : List Int} {t : List Int}, t.length = 31 → freeN_ t = 0 → l.foldl putT t = t
  | [], t, _, _ => rfl
  | n :: l, t, hl, h => by rw [List.foldl_cons, putT_full hl h, foldT_full hl h]
theorem foldT_free : ∀ {l : List Int} {t : List Int}, (∀ n ∈ l, n ≠ 0) → t.length = 31 → freeN_ (l.foldl putT t) = freeN_ t - l.length
  | [], t, _, _ => by simp
  | n :: l, t, hn, hl => by
    rw [List.foldl_cons, foldT_free (fun m hm => hn m (by simp [hm])) (by rw [putT_len]; exact hl), List.length_cons]
    by_cases h : freeN_ t = 0
    · rw [putT_full hl h]; omega
    · obtain ⟨k, _, _, h3⟩ := putT_free (hn n (by simp)) hl h
      omega
def zeroT : List Int := List.replicate 31 0
def seqP (l : List Share) (i : Nat) : List Int := ((l.take i).map fun s => List.replicate s.weight.toNat s.name).flatten
def seqN (l : List Share) : Nat → List Int
  | 0 => []
  | r + 1 => seqN l r ++ seqP l l.length
def sumW : List Share → Int
  | [] => 0
  | s :: l => s.weight + sumW l
def fillT (l : List Share) : List Int := if sumW l = 0 then zeroT else (seqN l 31).foldl putT zeroT
def tabR (l : List Share) (r i k : Nat) : List Int := (seqN l r ++ seqP l i ++ List.replicate k (l.getD i zShare).name).foldl putT zeroT
def okSh (l : List Share) : Prop := ∀ s ∈ l, s.name ≠ 0 ∧ 0 ≤ s.weight
theorem zeroT_len : zeroT.length = 31 := rfl
theorem zeroT_free : freeN_ zeroT = 31 := by decide
theorem tabR_len (l : List Share) (r i k : Nat) : (tabR l r i k).length = 31 := by unfold tabR; rw [foldT_len]; rfl
theorem seqP_succ {l : List Share} {i : Nat} (h : i < l.length) : seqP l (i + 1) = seqP l i ++ List.replicate (l.getD i zShare).weight.toNat (l.getD i zShare).name := by
  unfold seqP
  rw [take_snoc zShare h]
  simp
theorem tabR_k (l : List Share) (r i k : Nat) : tabR l r i (k + 1) = putT (tabR l r i k) (l.getD i zShare).name := by
  unfold tabR
  rw [show List.replicate (k + 1) (l.getD i zShare).name = List.replicate k (l.getD i zShare).name ++ [(l.getD i zShare).name] from List.replicate_succ' ..]
  rw [← List.append_assoc, List.foldl_append]
  rfl
theorem tabR_i {l : List Share} {r i : Nat} (h : i < l.length) : tabR l r i (l.getD i zShare).weight.toNat = tabR l r (i + 1) 0 := by
  unfold tabR
  rw [seqP_succ h]
  simp
theorem tabR_r (l : List Share) (r : Nat) : tabR l r l.length 0 = tabR l (r + 1) 0 0 := by
  unfold tabR
  simp [seqN, seqP]
theorem tabR_zero (l : List Share) : tabR l 0 0 0 = zeroT := by
  unfold tabR
  simp [seqN, seqP]
theorem seqP_prefix (l : List Share) {i : Nat} (h : i ≤ l.length) : ∃ t, seqP l l.length = seqP l i ++ t := by
  refine ⟨((l.drop i).map fun s => List.replicate s.weight.toNat s.name).flatten, ?_⟩
  unfold seqP
  rw [← List.flatten_append, ← List.map_append, List.take_append_drop, List.take_of_length_le (Nat.le_refl _)]
theorem seqN_prefix (l : List Share) : ∀ {r q : Nat}, r ≤ q → ∃ t, seqN l q = seqN l r ++ t
  | r, 0, h => ⟨[], by rw [show r = 0 by omega]; rfl⟩
  | r, q + 1, h => by
    by_cases e : r = q + 1
    · subst e; exact ⟨[], by simp⟩
    · obtain ⟨t, ht⟩ := seqN_prefix l (r := r) (q := q) (by omega)
      exact ⟨t ++ seqP l l.length, by rw [seqN, ht, List.append_assoc]⟩
theorem seqP_ok {l : List Share} (h : okSh l) (i : Nat) : ∀ n ∈ seqP l i, n ≠ 0 := by
  intro n hn
  unfold seqP at hn
  simp only [List.mem_flatten, List.mem_map] at hn
  obtain ⟨a, ⟨s, hs, rfl⟩, hn⟩ := hn
  rw [List.eq_of_mem_replicate hn]
  exact (h s (List.mem_of_mem_take hs)).1
theorem seqN_ok {l : List Share} (h : okSh l) : ∀ r, ∀ n ∈ seqN l r, n ≠ 0
  | 0, n, hn => by simp [seqN] at hn
  | r + 1, n, hn => by
    rw [seqN] at hn
    rcases List.mem_append.1 hn with hn | hn
    · exact seqN_ok h r n hn
    · exact seqP_ok h _ n hn
theorem sumW_pos {l : List Share} (h : okSh l) : 0 ≤ sumW l ∧ (sumW l ≠ 0 → 1 ≤ (seqP l l.length).length) ∧ (sumW l = 0 ↔ ∀ s ∈ l, s.weight = 0) := by
  have e : seqP l l.length = (l.map fun s => List.replicate s.weight.toNat s.name).flatten := by unfold seqP; rw [List.take_of_length_le (Nat.le_refl _)]
  rw [e]
  clear e
  induction l with
  | nil => simp [sumW]
  | cons s l ih =>
    obtain ⟨i1, i2, i3⟩ := ih fun x hx => h x (by simp [hx])
    have hs := (h s (by simp)).2
    refine ⟨by rw [sumW]; omega, fun hne => ?_, ?_⟩
    · rw [sumW] at hne
      simp only [List.map_cons, List.flatten_cons, List.length_append, List.length_replicate]
      by_cases e : s.weight = 0
      · have := i2 (by omega)
        omega
      · omega
    · rw [sumW]
      constructor
      · intro hz x hx
        rcases List.mem_cons.1 hx with rfl | hx
        · omega
        · exact i3.1 (by omega) x hx
      · intro hz
        have h1 := hz s (by simp)
        have h2 := i3.2 fun x hx => hz x (by simp [hx])
        omega
theorem seqN_len {l : List Share} : ∀ r, (seqN l r).length = r * (seqP l l.length).length
  | 0 => by simp [seqN]
  | r + 1 => by rw [seqN, List.length_append, seqN_len r, Nat.add_mul]; omega
theorem tabR_full {l : List Share} (hw : sumW l ≠ 0) {r i k : Nat} (hi : i < l.length) (hk : k ≤ (l.getD i zShare).weight.toNat) (h0 : freeN_ (tabR l r i k) = 0) (hr : r < 31) : tabR l r i k = fillT l := by
  obtain ⟨t1, e1⟩ := seqP_prefix l (i := i + 1) (by omega)
  rw [seqP_succ hi] at e1
  obtain ⟨t2, e2⟩ : ∃ t, List.replicate (l.getD i zShare).weight.toNat (l.getD i zShare).name = List.replicate k (l.getD i zShare).name ++ t := ⟨List.replicate ((l.getD i zShare).weight.toNat - k) (l.getD i zShare).name, by rw [List.replicate_append_replicate]; congr 1; omega⟩
  obtain ⟨t3, e3⟩ := seqN_prefix l (r := r + 1) (q := 31) (by omega)
  have e4 : seqN l 31 = (seqN l r ++ seqP l i ++ List.replicate k (l.getD i zShare).name) ++ (t2 ++ t1 ++ t3) := by
    rw [e3, seqN, e1, e2]
    simp [List.append_assoc]
  unfold fillT
  rw [if_neg hw, e4, List.foldl_append]
  exact (foldT_full (tabR_len l r i k) h0).symm
theorem tabR_end {l : List Share} (hw : sumW l ≠ 0) : tabR l 31 0 0 = fillT l := by
  unfold fillT tabR
  rw [if_neg hw]
  simp [seqP]
def freeR (t : List Int) (name : Int) : Int := match freeP t name with
  | none => -1
  | some k => placeI name k
theorem putT_free0 {t : List Int} {name : Int} (h : freeR t name < 0) : freeP t name = none := by
  unfold freeR at h
  cases hf : freeP t name with
  | none => rfl
  | some k =>
    rw [hf] at h
    have := (placeI_bd name (k := (k : Int)) (by omega)).1
    simp only at h
    omega
theorem putT_at {t : List Int} {name : Int} (h : ¬ freeR t name < 0) : putT t name = t.set (freeR t name).toNat name ∧ freeR t name < 31 := by
  unfold freeR putT at *
  cases hf : freeP t name with
  | none => rw [hf] at h; simp at h
  | some k => exact ⟨rfl, (placeI_bd name (k := (k : Int)) (by omega)).2⟩
def permL (name : Int) : List Int := (List.range 31).map fun (k : Nat) => placeI name k
theorem permL_len (name : Int) : (permL name).length = 31 := by simp [permL]
theorem permL_at (name : Int) {k : Nat} (h : k < 31) : (permL name).getD k 0 = placeI name k := by
  unfold permL
  rw [List.getD_eq_getElem?_getD, List.getElem?_map, List.getElem?_range h]
  rfl
theorem permL_take (name : Int) {k : Nat} (h : k < 31) : (permL name).take (k + 1) = (permL name).take k ++ [placeI name k] := by
  have := take_snoc (0 : Int) (xs := permL name) (i := k) (by rw [permL_len]; exact h)
  rw [this, permL_at name h]
def goneK (t : List Int) (l : List Share) (ks : List Nat) : Prop := ks.length = l.length ∧ ∀ i, i < l.length → ks.getD i 0 ≤ 31 ∧ ∀ j, j < ks.getD i 0 → t.getD (placeI (l.getD i zShare).name j).toNat 0 ≠ 0
theorem gone_set {t : List Int} {l : List Share} {ks : List Nat} {i d : Nat} (h : goneK t l ks) (hi : i < l.length) (hd : d ≤ 31) (h2 : ∀ j, j < d → t.getD (placeI (l.getD i zShare).name j).toNat 0 ≠ 0) : goneK t l (ks.set i d) := by
  obtain ⟨h0, h1⟩ := h
  refine ⟨by simp [h0], fun q hq => ?_⟩
  rw [List.getD_eq_getElem?_getD, List.getElem?_set]
  by_cases e : i = q
  · subst e
    rw [if_pos rfl, if_pos (by omega)]
    exact ⟨hd, h2⟩
  · rw [if_neg e, ← List.getD_eq_getElem?_getD]
    exact h1 q hq
theorem gone_put {t : List Int} {l : List Share} {ks : List Nat} {p : Nat} {n : Int} (h : goneK t l ks) (hn : n ≠ 0) : goneK (t.set p n) l ks := by
  obtain ⟨h0, h1⟩ := h
  refine ⟨h0, fun q hq => ⟨(h1 q hq).1, fun j hj => ?_⟩⟩
  have := (h1 q hq).2 j hj
  rw [List.getD_eq_getElem?_getD, List.getElem?_set]
  split
  · split
    · simpa using hn
    · rename_i e1 e2
      rw [List.getD_eq_getElem?_getD, List.getElem?_eq_none (by omega)] at this
      simp at this
  · rw [← List.getD_eq_getElem?_getD]
    exact this
theorem gone_lt {t : List Int} {name : Int} {d : Nat} (hl : t.length = 31) (hf : freeN_ t ≠ 0) (h : ∀ j, j < d → t.getD (placeI name j).toNat 0 ≠ 0) : d < 31 := by
  cases hp : freeP t name with
  | none => exact absurd (freeP_none hl hp) hf
  | some k =>
    obtain ⟨a1, a2, _⟩ := freeP_some hp
    by_cases e : d < 31
    · exact e
    · exact absurd a2 (h k (by omega))
theorem gone_free {t : List Int} {name : Int} {d : Nat} (hd : d < 31) (h : ∀ j, j < d → t.getD (placeI name j).toNat 0 ≠ 0) (h0 : t.getD (placeI name d).toNat 0 = 0) : putT t name = t.set (placeI name d).toNat name := by
  unfold putT
  rw [freeP_eq hd h0 h]
def sumN (ks : List Nat) : Nat := ks.foldr (· + ·) 0
theorem sumN_set : ∀ {ks : List Nat} {i d : Nat}, i < ks.length → sumN (ks.set i d) + ks.getD i 0 = sumN ks + d
  | [], i, d, h => by simp at h
  | k :: ks, 0, d, _ => by
    show d + sumN ks + k = k + sumN ks + d
    omega
  | k :: ks, i + 1, d, h => by
    have := sumN_set (ks := ks) (i := i) (d := d) (by simpa using h)
    show k + sumN (ks.set i d) + ks.getD i 0 = k + sumN ks + d
    omega
theorem freeP_no {t : List Int} {name : Int} (h : ∀ j : Nat, j < 31 → t.getD (placeI name j).toNat 0 ≠ 0) : freeP t name = none := by
  cases hf : freeP t name with
  | none => rfl
  | some k =>
    obtain ⟨a1, a2, _⟩ := freeP_some hf
    exact absurd a2 (h k a1)
theorem freeR_some {t : List Int} {name : Int} {k : Nat} (hk : k < 31) (h1 : t.getD (placeI name k).toNat 0 = 0) (h2 : ∀ i, i < k → t.getD (placeI name i).toNat 0 ≠ 0) : freeR t name = placeI name k := by
  unfold freeR
  rw [freeP_eq hk h1 h2]
theorem freeR_no {t : List Int} {name : Int} (h : ∀ j : Nat, j < 31 → t.getD (placeI name j).toNat 0 ≠ 0) : freeR t name = -1 := by
  unfold freeR
  rw [freeP_no h]
theorem sumW_take {l : List Share} {i : Nat} (h : i < l.length) : sumW (l.take (i + 1)) = sumW (l.take i) + (l.getD i zShare).weight := by
  rw [take_snoc zShare h]
  have : ∀ a : List Share, ∀ s, sumW (a ++ [s]) = sumW a + s.weight := by
    intro a s
    induction a with
    | nil => simp [sumW]
    | cons x a ih => simp only [List.cons_append, sumW, ih]; omega
  exact this _ _
theorem sumW_bd : ∀ {l : List Share}, (∀ s ∈ l, 0 ≤ s.weight ∧ s.weight ≤ 9) → 0 ≤ sumW l ∧ sumW l ≤ 9 * l.length
  | [], _ => by simp [sumW]
  | s :: l, h => by
    have h1 := h s (by simp)
    have h2 := sumW_bd (l := l) fun x hx => h x (by simp [hx])
    rw [sumW]
    simp only [List.length_cons]
    omega
theorem round_lt {l : List Share} (h : okSh l) (hw : sumW l ≠ 0) {r : Nat} (hr : freeN_ (tabR l r 0 0) ≠ 0) : r < 31 := by
  have e : tabR l r 0 0 = (seqN l r).foldl putT zeroT := by unfold tabR; simp [seqP]
  rw [e, foldT_free (seqN_ok h r) rfl, zeroT_free, seqN_len] at hr
  have := (sumW_pos h).2.1 hw
  have h2 : r ≤ r * (seqP l l.length).length := Nat.le_mul_of_pos_right _ this
  omega
theorem round_less {l : List Share} (h : okSh l) (hw : sumW l ≠ 0) {r : Nat} (hr : freeN_ (tabR l r 0 0) ≠ 0) : freeN_ (tabR l (r + 1) 0 0) < freeN_ (tabR l r 0 0) := by
  have e : ∀ q, tabR l q 0 0 = (seqN l q).foldl putT zeroT := fun q => by unfold tabR; simp [seqP]
  rw [e, foldT_free (seqN_ok h r) rfl, zeroT_free] at hr
  rw [e, e, foldT_free (seqN_ok h _) rfl, foldT_free (seqN_ok h _) rfl, zeroT_free, seqN, List.length_append]
  have := (sumW_pos h).2.1 hw
  omega
def cntR (l : List Share) (r i k : Nat) : Nat := r * (seqP l l.length).length + (seqP l i).length + k
theorem cntR_zero (l : List Share) : cntR l 0 0 0 = 0 := by simp [cntR, seqP]
theorem cntR_i {l : List Share} {r i : Nat} (h : i < l.length) : cntR l r i (l.getD i zShare).weight.toNat = cntR l r (i + 1) 0 := by
  unfold cntR
  rw [seqP_succ h, List.length_append, List.length_replicate]
  omega
theorem cntR_r (l : List Share) (r : Nat) : cntR l r l.length 0 = cntR l (r + 1) 0 0 := by
  unfold cntR
  rw [Nat.add_mul]
  simp [seqP]
theorem tabR_put {l : List Share} {r i k : Nat} (h : ¬ freeR (tabR l r i k) (l.getD i zShare).name < 0) : (tabR l r i k).set (freeR (tabR l r i k) (l.getD i zShare).name).toNat (l.getD i zShare).name = tabR l r i (k + 1) := by
  rw [tabR_k, (putT_at h).1]
theorem tabR_stop {l : List Share} (hw : sumW l ≠ 0) {r i k : Nat} (hi : i < l.length) (hk : k < (l.getD i zShare).weight.toNat) (hr : r < 31) (h : freeR (tabR l r i k) (l.getD i zShare).name < 0) : tabR l r i k = fillT l :=
  tabR_full hw hi (by omega) (freeP_none (tabR_len l r i k) (putT_free0 h)) hr
theorem fillT_len (l : List Share) : (fillT l).length = 31 := by
  unfold fillT
  split
  · rfl
  · rw [foldT_len]; rfl
def ordS (l : List Share) (ks : List Nat) : List (List T) := (List.range l.length).map fun i => [T.sl false 1 (((permL (l.getD i zShare).name).drop (ks.getD i 0)).map eI_i64)]
theorem ordS_len (l : List Share) (ks : List Nat) : (ordS l ks).length = l.length := by simp [ordS]
theorem ordS_at {l : List Share} {i : Nat} (ks : List Nat) (h : i < l.length) (d : List T) : (ordS l ks).getD i d = [T.sl false 1 (((permL (l.getD i zShare).name).drop (ks.getD i 0)).map eI_i64)] := by
  unfold ordS
  rw [List.getD_eq_getElem?_getD, List.getElem?_map, List.getElem?_range h]
  rfl
theorem ordS_zero (l : List Share) : (l.map fun s => [T.sl false 1 ((permL s.name).map eI_i64)]) = ordS l (List.replicate l.length 0) := by
  unfold ordS
  apply List.ext_getElem
  · simp
  · intro i h1 h2
    simp only [List.length_map] at h1
    have e : (List.replicate l.length 0).getD i 0 = 0 := by
      rw [List.getD_eq_getElem?_getD, List.getElem?_replicate, if_pos h1]
      rfl
    simp only [List.getElem_map, List.getElem_range]
    rw [e, List.drop_zero, List.getD_eq_getElem?_getD, List.getElem?_eq_getElem h1]
    rfl
theorem ordS_set {l : List Share} {ks : List Nat} {i : Nat} (h : i < l.length) (hk : ks.length = l.length) : (ordS l ks).set i [T.sl false 1 (((permL (l.getD i zShare).name).drop (ks.getD i 0 + 1)).map eI_i64)] = ordS l (ks.set i (ks.getD i 0 + 1)) := by
  unfold ordS
  apply List.ext_getElem
  · simp
  · intro q h1 h2
    simp only [List.length_set, List.length_map, List.length_range] at h1
    rw [List.getElem_set]
    split
    · rename_i e
      subst e
      simp only [List.getElem_map, List.getElem_range]
      rw [List.getD_eq_getElem?_getD (l := ks.set _ _), List.getElem?_set_self (by omega)]
      rfl
    · rename_i e
      simp only [List.getElem_map, List.getElem_range]
      rw [List.getD_eq_getElem?_getD (l := ks.set _ _), List.getElem?_set_ne e, ← List.getD_eq_getElem?_getD]
theorem sumN_zero (n : Nat) : sumN (List.replicate n 0) = 0 := by
  induction n with
  | zero => rfl
  | succ n ih => rw [List.replicate_succ]; show 0 + sumN (List.replicate n 0) = 0; omega
theorem gone_zero (t : List Int) (l : List Share) : goneK t l (List.replicate l.length 0) := by
  refine ⟨by simp, fun i hi => ?_⟩
  have e : (List.replicate l.length 0).getD i 0 = 0 := by
    rw [List.getD_eq_getElem?_getD, List.getElem?_replicate, if_pos hi]
    rfl
  rw [e]
  exact ⟨by omega, fun j hj => by omega⟩
def posW (s : Share) : Bool := decide (0 < s.weight)
theorem posW_no {l : List Share} (h : okSh l) : hasG posW l = false ↔ sumW l = 0 := by
  rw [(sumW_pos h).2.2]
  unfold hasG
  rcases idxG_cases zShare posW l with ⟨h1, h2⟩ | ⟨i, h1, h2, h3, h4⟩
  · rw [h1]
    refine ⟨fun _ s hs => ?_, fun _ => by decide⟩
    obtain ⟨p, hp, rfl⟩ := List.getElem_of_mem hs
    have := h2 p hp
    rw [List.getD_eq_getElem?_getD, List.getElem?_eq_getElem hp] at this
    simp only [Option.getD_some, posW, decide_eq_false_iff_not] at this
    have := (h _ hs).2
    omega
  · rw [h1]
    refine ⟨fun hf => ?_, fun hz => ?_⟩
    · simp at hf
    · have := hz _ (getD_mem zShare h2)
      simp only [posW, decide_eq_true_eq] at h3
      omega
theorem perm_drop {name : Int} {k : Nat} (h : k < 31) (d : List T) : (((permL name).drop k).map eI_i64).getD 0 d = [T.int .i64 (placeI name k)] := by
  rw [drop_getD (0 : Int) (by rw [permL_len]; exact h), permL_at name h]
  rfl
theorem tab_more {l : List Share} {r i k d : Nat} (hg : ∀ j, j < d → (tabR l r i k).getD (placeI (l.getD i zShare).name j).toNat 0 ≠ 0) (hd : d < 31) (h0 : (tabR l r i k).getD (placeI (l.getD i zShare).name d).toNat 0 = 0) :
    (tabR l r i k).set (placeI (l.getD i zShare).name d).toNat (l.getD i zShare).name = tabR l r i (k + 1) := by
  rw [tabR_k, gone_free hd hg h0]
theorem tab_less {l : List Share} {r i k : Nat} (hn : (l.getD i zShare).name ≠ 0) (hf : freeN_ (tabR l r i k) ≠ 0) : freeN_ (tabR l r i (k + 1)) + 1 = freeN_ (tabR l r i k) := by
  rw [tabR_k]
  obtain ⟨_, _, _, h⟩ := putT_free hn (tabR_len l r i k) hf
  exact h
theorem freeN_le (t : List Int) : freeN_ t ≤ t.length := List.length_filter_le _ _
def shF (c : Config) (n : Int) : Bool := (c.backends.getD (bAt c n) zBackend).up && decide ((c.backends.getD (bAt c n) zBackend).stage = 1)
def shO (c : Config) (n : Int) : Share := ⟨n, (c.backends.getD (bAt c n) zBackend).weight⟩
def sharesOf (c : Config) (ns : List Int) : List Share := (ns.filter (shF c)).map (shO c)
def tablesOf (c : Config) : List (List Int) := c.vips.map fun v => fillT (sharesOf c v.names)
def isFl (f : Flow) : Bool := inR f.from_ 0 4294967295 && inR f.to_ 0 4294967295 && isPro f.proto && inR f.fromP 0 65535 && inR f.toP 0 65535
def servesF (c : Config) (f : Flow) (n : Int) : Bool :=
  decide (0 ≤ findV c.vips f.to_ f.toP f.proto) && (hasG (eqI n) (c.vips.getD (findV c.vips f.to_ f.toP f.proto).toNat zVip).names && decide ((c.backends.getD (bAt c n) zBackend).stage ≠ 3))
def eqF (f : Flow) (h : Held) : Bool := decide (h.flow.from_ = f.from_) && (decide (h.flow.to_ = f.to_) && (decide (h.flow.proto = f.proto) && (decide (h.flow.fromP = f.fromP) && decide (h.flow.toP = f.toP))))
def heldBad (m : Mux) (i : Nat) : Int :=
  if !isFl (m.cache.getD i zHeld).flow || !inR (m.cache.getD i zHeld).seen 0 m.now then 3 else
  if servesF m.watch.config (m.cache.getD i zHeld).flow (m.cache.getD i zHeld).name = false then 4 else
  if 20 < m.now - (m.cache.getD i zHeld).seen then 9 else
  if hasG (eqF (m.cache.getD i zHeld).flow) (m.cache.take i) = true then 7 else 0
def muxFault (m : Mux) : Int :=
  if !inR m.address 0 4294967295 || !inR m.now 0 1000000000 then 3 else
  if watchFault m.watch ≠ 0 then watchFault m.watch else
  if m.tables ≠ tablesOf m.watch.config then 1 else
  if 8 < m.cache.length then 2 else scan (heldBad m) m.cache.length 0
def badX (k : Int) : MuxResult := ⟨k, 0, 0, [], zMux⟩
def fresh20 (now : Int) (h : Held) : Bool := decide (now - h.seen ≤ 20)
def tickM (m : Mux) (n : Int) : MuxResult :=
  if muxFault m ≠ 0 then badX (muxFault m) else
  if !inR n 0 1000000 || decide (1000000000 < m.now + n) then badX 3 else
  ⟨0, 0, 0, [], ⟨m.address, m.now + n, m.watch, m.tables, m.cache.filter (fresh20 (m.now + n))⟩⟩
def svH (c : Config) (h : Held) : Bool := servesF c h.flow h.name
def installW (m : Mux) (u : Update) : MuxResult :=
  if (takeU m.watch u).code ≠ 0 then badX (takeU m.watch u).code else
  ⟨0, 0, 0, [], ⟨m.address, m.now, (takeU m.watch u).watch, tablesOf (takeU m.watch u).watch.config, m.cache.filter (svH (takeU m.watch u).watch.config)⟩⟩
def installM (m : Mux) (u : Update) : MuxResult := if muxFault m ≠ 0 then badX (muxFault m) else installW m u
theorem shares_ok {c : Config} (P : CfP c) {v : Vip} (hv : v ∈ c.vips) : okSh (sharesOf c v.names) ∧ (∀ s ∈ sharesOf c v.names, 0 ≤ s.weight ∧ s.weight ≤ 9) ∧ (sharesOf c v.names).length ≤ 999 := by
  have key : ∀ s ∈ sharesOf c v.names, s.name ≠ 0 ∧ 0 ≤ s.weight ∧ s.weight ≤ 9 := by
    intro s hs
    unfold sharesOf at hs
    obtain ⟨n, hn, rfl⟩ := List.mem_map.1 hs
    have hn := (List.mem_filter.1 hn).1
    obtain ⟨b, hb, e⟩ := P.nb v hv n hn
    have h1 := P.bk b hb
    have h2 : ¬ findB c.backends n < 0 := by have := findB_mem.2 ⟨b, hb, e⟩; omega
    have h3 := P.bk _ (getD_mem zBackend (bAt_lt h2).1)
    simp only [isBk, inR, Bool.and_eq_true, decide_eq_true_eq] at h1 h3
    unfold shO
    simp only
    omega
  refine ⟨fun s hs => ⟨(key s hs).1, (key s hs).2.1⟩, fun s hs => (key s hs).2, ?_⟩
  unfold sharesOf
  rw [List.length_map]
  refine Nat.le_trans (List.length_filter_le _ _) ?_
  have := pw_len (lo := 1) (hi := 999) (P.nr v hv) (fun n hn => by
    obtain ⟨b, hb, rfl⟩ := P.nb v hv n hn
    have := P.bk b hb
    simp only [isBk, inR, Bool.and_eq_true, decide_eq_true_eq] at this
    omega) (by omega)
  omega
theorem sh_at {c : Config} (P : CfP c) {v : Vip} (hv : v ∈ c.vips) {n : Int} (hn : n ∈ v.names) : ∃ m : Nat, findB c.backends n = m ∧ m < c.backends.length ∧ bAt c n = m ∧ (c.backends.getD m zBackend).name = n := by
  have h0 : ¬ findB c.backends n < 0 := by have := findB_mem.2 (P.nb v hv n hn); omega
  obtain ⟨i, h1, h2, h3, _⟩ := idxG_lt zBackend h0
  have h1 : findB c.backends n = i := h1
  exact ⟨i, h1, h2, by unfold bAt; rw [h1]; rfl, by simpa [isB] using h3⟩
theorem sharesOf_take {c : Config} {ns : List Int} {i : Nat} (h : i < ns.length) : sharesOf c (ns.take (i + 1)) = sharesOf c (ns.take i) ++ (if shF c (ns.getD i zI_i64) = true then [shO c (ns.getD i zI_i64)] else []) := by
  unfold sharesOf
  rw [filter_take (shF c) zI_i64 h, List.map_append]
  congr 1
  split <;> rfl
theorem sharesOf_len (c : Config) (ns : List Int) : (sharesOf c ns).length ≤ ns.length := by
  unfold sharesOf
  rw [List.length_map]
  exact List.length_filter_le _ _
theorem tablesOf_len (c : Config) : (tablesOf c).length = c.vips.length := by simp [tablesOf]
theorem serves_at {c : Config} (P : CfP c) {f : Flow} {n : Int} {i : Nat} (hi : findV c.vips f.to_ f.toP f.proto = i) (hl : i < c.vips.length) (hh : hasG (eqI n) (c.vips.getD i zVip).names = true) : n ∈ (c.vips.getD i zVip).names := by
  unfold hasG at hh
  simp only [decide_eq_true_eq] at hh
  obtain ⟨j, h1, h2, h3, _⟩ := idxG_lt zI_i64 (q := eqI n) (xs := (c.vips.getD i zVip).names) (by omega)
  simp only [eqI, decide_eq_true_eq] at h3
  rw [← h3]
  exact getD_mem zI_i64 h2
def packetFault (p : Packet) : Int :=
  if !inR p.from_ 0 4294967295 || !inR p.to_ 0 4294967295 || !isPro p.proto || !inR p.fromP 0 65535 || !inR p.toP 0 65535 then 3 else if 200 < p.load.length then 2 else 0
theorem isFl_fault (f : Flow) : decide (packetFault ⟨f.from_, f.to_, f.proto, f.fromP, f.toP, []⟩ = 0) = isFl f := by
  unfold packetFault isFl
  cases inR f.from_ 0 4294967295 <;> cases inR f.to_ 0 4294967295 <;> cases isPro f.proto <;> cases inR f.fromP 0 65535 <;> cases inR f.toP 0 65535 <;> simp
theorem eq_getD {α : Type} (z : α) {a b : List α} (hl : a.length = b.length) (h : ∀ j, j < a.length → a.getD j z = b.getD j z) : a = b := by
  apply List.ext_getElem hl
  intro i h1 h2
  have := h i h1
  rw [List.getD_eq_getElem?_getD, List.getD_eq_getElem?_getD, List.getElem?_eq_getElem h1, List.getElem?_eq_getElem h2] at this
  exact this
def limX (n : Nat) (m : Mux) : Prop := limG n m.watch.config ∧ m.tables.length ≤ n ∧ (∀ t ∈ m.tables, t.length ≤ n) ∧ m.cache.length ≤ n
theorem tablesOf_row {c : Config} : ∀ t ∈ tablesOf c, t.length = 31 := by
  intro t ht
  obtain ⟨v, _, rfl⟩ := List.mem_map.1 ht
  exact fillT_len _
theorem serves_in {c : Config} (P : CfP c) {f : Flow} {n : Int} (hf : ¬ findV c.vips f.to_ f.toP f.proto < 0) (hh : hasG (eqI n) (c.vips.getD (findV c.vips f.to_ f.toP f.proto).toNat zVip).names = true) : ∃ m : Nat, findB c.backends n = m ∧ m < c.backends.length ∧ bAt c n = m := by
  obtain ⟨i, h1, h2, h3, _⟩ := idxG_lt zVip hf
  have h1 : findV c.vips f.to_ f.toP f.proto = i := h1
  have e : (findV c.vips f.to_ f.toP f.proto).toNat = i := by rw [h1]; rfl
  rw [e] at hh
  obtain ⟨m, m1, m2, m3, _⟩ := sh_at P (getD_mem zVip h2) (serves_at P h1 h2 hh)
  exact ⟨m, m1, m2, m3⟩
theorem servesF_eq {c : Config} (P : CfP c) (f : Flow) (n : Int) : (decide (0 ≤ findV c.vips f.to_ f.toP f.proto) && decide (0 ≤ findB c.backends n) && hasG (eqI n) (c.vips.getD (findV c.vips f.to_ f.toP f.proto).toNat zVip).names && !decide ((c.backends.getD (findB c.backends n).toNat zBackend).stage = 3)) = servesF c f n := by
  unfold servesF
  by_cases h1 : 0 ≤ findV c.vips f.to_ f.toP f.proto
  · cases h2 : hasG (eqI n) (c.vips.getD (findV c.vips f.to_ f.toP f.proto).toNat zVip).names with
    | false => simp
    | true =>
      obtain ⟨m, m1, m2, m3⟩ := serves_in P (by omega) h2
      rw [m3, m1]
      simp [h1]
  · simp [h1]
theorem watch_p {w : Watch} (h : watchFault w = 0) : CfP w.config := cf_p (cf_ok (watch_cf h))
theorem tab_lim {c : Config} (P : CfP c) : (tablesOf c).length ≤ 2097152 ∧ ∀ t ∈ tablesOf c, t.length ≤ 2097152 := by
  refine ⟨by rw [tablesOf_len]; have := P.v4; omega, fun t ht => by rw [tablesOf_row t ht]; omega⟩
def keepG {α : Type} (q : α → Bool) (xs : List α) : List α := xs.filter fun s => !q s
theorem keepG_le {α : Type} (q : α → Bool) (xs : List α) (i : Nat) : (keepG q (xs.take i)).length ≤ i := by
  unfold keepG
  have := List.length_filter_le (fun s => !q s) (xs.take i)
  simp at this
  omega
theorem keepG_all {α : Type} (z : α) {q : α → Bool} {xs : List α} (h : ∀ j, j < xs.length → q (xs.getD j z) = false) : keepG q xs = xs := by
  unfold keepG
  rw [List.filter_eq_self]
  intro s hs
  have := (all_getD (p := fun s => q s = false) z).1 h s hs
  simp [this]
theorem keepG_take {α : Type} (z : α) {q : α → Bool} {xs : List α} {i : Nat} (hi : i ≤ xs.length) (h : ∀ j, j < i → q (xs.getD j z) = false) : keepG q (xs.take i) = xs.take i := by
  refine keepG_all z fun j hj => ?_
  have hj2 : j < i := by simp at hj; omega
  rw [List.getD_eq_getElem?_getD, List.getElem?_take_of_lt hj2, ← List.getD_eq_getElem?_getD]
  exact h j hj2
theorem keepG_getD {α : Type} (z : α) {q : α → Bool} {xs : List α} {i : Nat} (hi : i < xs.length) : (keepG q (xs.take i) ++ xs.drop (keepG q (xs.take i)).length).getD i z = xs.getD i z := by
  have hl := keepG_le q xs i
  rw [List.getD_eq_getElem?_getD, List.getElem?_append_right hl, List.getElem?_drop, List.getD_eq_getElem?_getD]
  congr 2
  omega
theorem keepG_yes {α : Type} (z : α) {q : α → Bool} {xs : List α} {i : Nat} (hi : i < xs.length) (h : q (xs.getD i z) = false) : keepG q (xs.take (i + 1)) = keepG q (xs.take i) ++ [xs.getD i z] := by
  unfold keepG
  rw [filter_take _ z hi, if_pos (by simp only [h, Bool.not_false])]
theorem keepG_no {α : Type} (z : α) {q : α → Bool} {xs : List α} {i : Nat} (hi : i < xs.length) (h : q (xs.getD i z) = true) : keepG q (xs.take (i + 1)) = keepG q (xs.take i) := by
  unfold keepG
  rw [filter_take _ z hi, if_neg (by simp only [h]; decide), List.append_nil]
theorem keepG_set {α : Type} (z : α) (e : α → List T) {K xs : List α} {v : α} (h : K.length < xs.length) : ((K ++ xs.drop K.length).map e).set K.length (e v) = ((K ++ [v]) ++ xs.drop (K ++ [v]).length).map e := by
  rw [drop_getD z h]
  rw [List.map_append, List.set_append_right _ _ (by simp), List.length_map, Nat.sub_self, List.map_cons, List.set_cons_zero]
  simp
theorem tickM_keep (now : Int) (xs : List Held) : xs.filter (fresh20 now) = keepG (fun h => decide (20 < now - h.seen)) xs := by
  unfold keepG
  congr 1
  funext h
  unfold fresh20
  by_cases e : now - h.seen ≤ 20
  · simp [e]
  · simp [e]
    omega
theorem mux_ok {m : Mux} (h : muxFault m = 0) : (0 ≤ m.now ∧ m.now ≤ 1000000000) ∧ watchFault m.watch = 0 ∧ m.tables = tablesOf m.watch.config ∧ m.cache.length ≤ 8 ∧ ∀ x ∈ m.cache, 0 ≤ x.seen ∧ x.seen ≤ m.now := by
  unfold muxFault at h
  split at h
  · exact absurd h (by decide)
  rename_i h1
  split at h
  · rename_i h2; exact absurd h h2
  rename_i h2
  split at h
  · exact absurd h (by decide)
  rename_i h3
  split at h
  · exact absurd h (by decide)
  rename_i h4
  refine ⟨by simp [inR] at h1; omega, by omega, by simpa using h3, by omega, fun x hx => ?_⟩
  obtain ⟨i, hi, rfl⟩ := List.getElem_of_mem hx
  have h5 := scan_zero.1 h i (Nat.zero_le _) hi
  unfold heldBad at h5
  rw [List.getD_eq_getElem?_getD, List.getElem?_eq_getElem hi, Option.getD_some] at h5
  split at h5
  · exact absurd h5 (by decide)
  rename_i h6
  simp [inR] at h6
  exact h6.2
def szIs : List (List Int) → Int → Int
  | [], l => l
  | x :: xs, l => szT (szL x.length l) (szIs xs)
def szII (xs : List (List Int)) (l : Int) : Int := szT (szL xs.length l) (szIs xs)
def szMux (x : Mux) (l : Int) : Int := szT (szWatch x.watch l) fun l => szT (szII x.tables l) fun l => szT (szL x.cache.length l) fun l => l
theorem szIs_lo : ∀ (xs : List (List Int)) (l : Int), -1 ≤ l → l ≤ 1048576 → -1 ≤ szIs xs l ∧ szIs xs l ≤ 1048576
  | [], l, h1, h2 => ⟨h1, h2⟩
  | x :: xs, l, h1, h2 => by
    have h3 := szIs_lo xs (szL x.length l) (szL_lo _ _) (szL_hi h2 (by omega))
    exact ⟨szT_lo fun _ => h3.1, szT_hi (by omega) h3.2⟩
theorem szII_lo (xs : List (List Int)) (l : Int) (h : l ≤ 1048576) : -1 ≤ szII xs l ∧ szII xs l ≤ 1048576 := by
  have := szIs_lo xs _ (szL_lo xs.length l) (szL_hi h (by omega))
  exact ⟨szT_lo fun _ => this.1, szT_hi (by omega) this.2⟩
theorem szWatch_lo (x : Watch) (l : Int) (h : l ≤ 1048576) : -1 ≤ szWatch x l ∧ szWatch x l ≤ 1048576 := by rw [szWatch_eq x l h]; exact szConfig_lo x.config l h
theorem szMux_lo (x : Mux) (l : Int) (h : l ≤ 1048576) : -1 ≤ szMux x l ∧ szMux x l ≤ 1048576 := by
  have h1 := (szWatch_lo x.watch l h).2
  have h2 := (szII_lo x.tables (szWatch x.watch l) h1).2
  exact ⟨szT_lo fun _ => szT_lo fun _ => szT_lo fun _ => szL_lo _ _, szT_hi (by omega) (szT_hi (by omega) (szT_hi (by omega) (szL_hi h2 (by omega))))⟩
theorem szIs_lim : ∀ {xs : List (List Int)} {l : Int}, 0 ≤ szIs xs l → l ≤ 1048576 → ∀ y ∈ xs, y.length ≤ 1048576
  | [], _, _, _ => by simp
  | x :: xs, l, h, hl => by
    obtain ⟨a1, a2, _⟩ := szT_ge h
    have e1 := szL_ge a1
    intro y hy
    rcases List.mem_cons.1 hy with rfl | hy
    · omega
    · exact szIs_lim a2 (szL_hi hl (by omega)) y hy
theorem szMux_lim {x : Mux} {l : Int} (h : 0 ≤ szMux x l) (hl : l ≤ 1048576) : limX 1048576 x := by
  unfold szMux at h
  obtain ⟨a1, a2, _⟩ := szT_ge h
  obtain ⟨b1, b2, _⟩ := szT_ge a2
  obtain ⟨c1, _, _⟩ := szT_ge b2
  have h1 := (szWatch_lo x.watch l hl).2
  have h2 := (szII_lo x.tables (szWatch x.watch l) h1).2
  have e := szL_ge c1
  obtain ⟨d1, d2, _⟩ := szT_ge b1
  have f := szL_ge d1
  rw [szWatch_eq x.watch l hl] at a1
  exact ⟨szConfig_lim a1 hl, by omega, szIs_lim d2 (szL_hi h1 (by omega)), by omega⟩
theorem limX_mono {a b : Nat} (h : a ≤ b) {x : Mux} (hx : limX a x) : limX b x := ⟨limG_mono h hx.1, Nat.le_trans hx.2.1 h, fun t ht => Nat.le_trans (hx.2.2.1 t ht) h, Nat.le_trans hx.2.2.2 h⟩
def mLI (x : List Int) (k : Int) : List Int := mkL mI sI x k
def sLI (x : List Int) (k : Int) : Int := mkK sI x k
def mH (_ : Held) (k : Int) : Held := ⟨⟨k, k + 1, k + 1 + 1, k + 1 + 1 + 1, k + 1 + 1 + 1 + 1⟩, k + 1 + 1 + 1 + 1 + 1, k + 1 + 1 + 1 + 1 + 1 + 1⟩
def sH (_ : Held) (k : Int) : Int := k + 1 + 1 + 1 + 1 + 1 + 1 + 1
def mY (_ : Int) (k : Int) : Int := IntKind.wrap .u8 k
def sY (_ : Int) (k : Int) : Int := k + 1
theorem sLI_up (x : List Int) (k : Int) : k ≤ sLI x k := mkK_mono sI_up x k
theorem sH_up (x : Held) (k : Int) : k ≤ sH x k := by unfold sH; omega
theorem sY_up (x : Int) (k : Int) : k ≤ sY x k := by unfold sY; omega
def mX (x : Mux) (k : Int) : Mux := ⟨x.address, x.now, ⟨x.watch.ready, mG x.watch.config k⟩, mkL mLI sLI x.tables (sG x.watch.config k), mkL mH sH x.cache (mkK sLI x.tables (sG x.watch.config k))⟩
def sX (x : Mux) (k : Int) : Int := mkK sH x.cache (mkK sLI x.tables (sG x.watch.config k))
theorem sX_up (x : Mux) (k : Int) : k ≤ sX x k := by
  have h1 := sG_up x.watch.config k
  have h2 := mkK_mono sLI_up x.tables (sG x.watch.config k)
  have h3 := mkK_mono sH_up x.cache (mkK sLI x.tables (sG x.watch.config k))
  unfold sX; omega
theorem mkLI_bd {xs : List (List Int)} {b : Nat} (h : ∀ x ∈ xs, x.length ≤ b) (k : Int) : mkK sLI xs k ≤ k + b * xs.length := mkK_bd (by omega) fun x hx k => by
  have h1 := mkI_bd x k
  have h2 := h x hx
  unfold sLI; omega
theorem mkH_bd (xs : List Held) (k : Int) : mkK sH xs k ≤ k + 7 * xs.length := mkK_bd (by omega) fun x _ k => by unfold sH; omega
theorem mkY_bd (xs : List Int) (k : Int) : mkK sY xs k ≤ k + 1 * xs.length := mkK_bd (by omega) fun x _ k => by unfold sY; omega
theorem sX_bd {x : Mux} (hx : limX 2097152 x) {k : Int} (hk : k ≤ 4000000000000000000) : sX x k ≤ k + 8796200000000 := by
  have h1 := sG_bd hx.1 hk
  have h2 := mkLI_bd hx.2.2.1 (sG x.watch.config k)
  have h3 := mkH_bd x.cache (mkK sLI x.tables (sG x.watch.config k))
  have h4 := hx.2.1
  have h5 := hx.2.2.2
  have h6 : ((2097152 : Nat) : Int) * x.tables.length ≤ ((2097152 : Nat) : Int) * 2097152 := Int.mul_le_mul_of_nonneg_left (by omega) (by omega)
  unfold sX
  omega
def mXR (r : MuxResult) (k : Int) : MuxResult := ⟨r.code, r.why, r.name, mkL mY sY r.out k, mX r.mux (mkK sY r.out k)⟩
def sXR (r : MuxResult) (k : Int) : Int := sX r.mux (mkK sY r.out k)
theorem sXR_up (r : MuxResult) (k : Int) : k ≤ sXR r k := by
  have h1 := mkK_mono sY_up r.out k
  have h2 := sX_up r.mux (mkK sY r.out k)
  unfold sXR; omega
def limXR (b : Nat) (r : MuxResult) : Prop := r.out.length ≤ b ∧ limX b r.mux
theorem sXR_bd {r : MuxResult} (hr : limXR 2097152 r) {k : Int} (hk : k ≤ 3000000000000000000) : sXR r k ≤ k + 8796300000000 := by
  have h1 := mkY_bd r.out k
  have h2 := hr.1
  have h3 := sX_bd hr.2 (k := mkK sY r.out k) (by omega)
  unfold sXR
  omega
theorem zMux_lim (b : Nat) : limX b zMux := ⟨zConfig_lim b, by simp [zMux], by simp [zMux], by simp [zMux]⟩
theorem tick_lim {m : Mux} {b : Nat} (hm : limX b m) (n : Int) : limXR b (tickM m n) := by
  unfold tickM
  split
  · exact ⟨by simp [badX], zMux_lim b⟩
  split
  · exact ⟨by simp [badX], zMux_lim b⟩
  · exact ⟨by simp, hm.1, hm.2.1, hm.2.2.1, Nat.le_trans (List.length_filter_le _ _) hm.2.2.2⟩
theorem takeU_eq {w : Watch} {u : Update} (hw : watchFault w = 0) (hu : updateFault u = 0) : takeU w u = takeW w u := by
  unfold takeU
  rw [if_neg (by omega), if_neg (by omega)]
theorem sv_keep (c : Config) (xs : List Held) : keepG (fun h => !svH c h) xs = xs.filter (svH c) := by
  unfold keepG
  congr 1
  funext h
  simp
theorem shr_cfg (c : Config) : T.shrL [T.ptr (eConfig false c)] = [T.ptr (eConfig false c)] := by simp only [go_sem, eConfig]
theorem install_lim {m : Mux} {b : Nat} (hb : 1048576 ≤ b) (hm : limX b m) (u : Update) (hw : watchFault m.watch = 0) : limXR b (installW m u) := by
  unfold installW
  split
  · exact ⟨by simp [badX], zMux_lim b⟩
  · rename_i h
    have P := watch_p (takeU_ok (u := u) hw (by omega))
    have e := tablesOf_len (takeU m.watch u).watch.config
    have v4 := P.v4
    refine ⟨by simp, limG_mono hb (takeU_lim m.watch u), by simp only; omega, fun t ht => ?_, Nat.le_trans (List.length_filter_le _ _) hm.2.2.2⟩
    simp only at ht
    rw [tablesOf_row t ht]
    omega
theorem installM_lim {m : Mux} {b : Nat} (hb : 1048576 ≤ b) (hm : limX b m) (u : Update) : limXR b (installM m u) := by
  unfold installM
  split
  · exact ⟨by simp [badX], zMux_lim b⟩
  · rename_i h
    exact install_lim hb hm u (mux_ok (by omega)).2.1
end Go.H
end
section
set_option maxRecDepth 100000
set_option maxHeartbeats 4000000
set_option cbv.maxSteps 4000000
set_option linter.unusedVariables false
set_option linter.unusedSimpArgs false
namespace Go.H
open Go Go.Proofs.Tryz
variable [Inv prog]
theorem s_laws_szInt64SS (xs : List (List Int)) (l : Int) (h0 : -1 ≤ l) (h1 : l ≤ 1048576) (hl : xs.length ≤ 9223372036854775807) (hm : ∀ y ∈ xs, y.length ≤ 9223372036854775807) : SemX prog 53 [aT (.sl false 1 (xs.map (eLI_i64 false))), aI l] [] [rI (szII xs l)] [] := by
 refine goF [] [] [] func53 ?_
 refine D ?_
 refine cC (fun c0 => ?_) (fun c0 => ?_)
 · skip
   refine D ?_
   refine E ?_
   simp [szII, szL, szT, *]
 · skip
   refine D ?_
   refine L (α := (Nat × Int)) (fun x => [(1, .int .i64 x.2), (5, .int .i64 x.1)]) (fun x => []) (fun x => xs.length - x.1) (fun x => x.1 ≤ xs.length ∧ -1 ≤ x.2 ∧ x.2 ≤ 1048576 ∧ szIs xs (szL xs.length l) = szIs (xs.drop x.1) x.2) (0, szL xs.length l) [] (fun x0 hL => ?_) (by simp only [go_sem] <;> and_intros <;> first | with_reducible exact rfl | (first | omega | (simp [szL, *]; done))) (by refine ⟨Nat.zero_le _, szL_lo _ _, szL_hi h1 (by omega), rfl⟩)
   obtain ⟨i, m⟩ := x0
   obtain ⟨hi, hm1, hm2, he⟩ := hL
   try dsimp only at *
   refine D ?_
   refine cC (fun c1 => ?_) (fun c1 => ?_)
   · skip
     refine D ?_
     refine kR (s_laws_szInt64S ((xs.getD i zLI_i64).map eI_i64) m hm1 hm2 (by simp only [List.length_map]; exact hm _ (getD_mem zLI_i64 (by omega)))) ?_
     refine D ?_
     refine cC (fun c2 => ?_) (fun c2 => ?_)
     · skip
       refine D ?_
       refine E ?_
       have := szL_lo xs.length l
       rw [szII, szT, if_neg (by unfold szL; split <;> omega), he, drop_getD zLI_i64 (by omega)]
       simp [szIs, szT, *, -List.getD_eq_getElem?_getD]
     · skip
       refine D ?_
       refine lp_next (i + 1, szL (xs.getD i zLI_i64).length m) [] ?_ ?_ ?_
       · simp only [go_sem] <;> and_intros <;> first | with_reducible exact rfl | (first | omega | (simp [szL, *]; done))
       · refine ⟨by omega, szL_lo _ _, szL_hi hm2 (by omega), ?_⟩
         rw [he, drop_getD zLI_i64 (by omega)]
         simp [szIs, szT, *, -List.getD_eq_getElem?_getD]
       · try dsimp only
         omega
   · skip
     obtain rfl : i = xs.length := by omega
     refine D ?_
     refine E ?_
     first
     | exact trivial
     | rw [szII, szT, if_neg (by unfold szL; split <;> omega), he]
       simp [szIs]
theorem s_laws_szHeldS (rows : List (List T)) (l : Int) (h0 : -1 ≤ l) (h1 : l ≤ 1048576) (hl : rows.length ≤ 9223372036854775807) : SemX prog 54 [aT (.sl false 7 rows), aI l] [] [rI (szL rows.length l)] [] := by
 refine goF [] [] [] func54 ?_
 refine D ?_
 refine cC (fun c0 => ?_) (fun c0 => ?_)
 · skip
   refine D ?_
   refine E ?_
   first
   | exact trivial
   | simp [szL, *]
 · skip
   refine D ?_
   refine E ?_
   first
   | exact trivial
   | simp [szL, *]
theorem s_laws_szMux (x : Mux) (l : Int) (h0 : -1 ≤ l) (h1 : l ≤ 1048576) (hq : qMux x) : SemX prog 12 [aS (eMux false x), aI l] [] [rI (szMux x l)] [] := by
 refine goF [] [] [] func12 ?_
 have hwl := szWatch_lo x.watch l h1
 have hil := szII_lo x.tables (szWatch x.watch l) hwl.2
 refine D ?_
 refine kR (s_laws_szWatch x.watch l h0 h1 hq.1.1 hq.1.2.1 (fun i hi => hq.1.2.2 _ (getD_mem zVip hi))) ?_
 refine D ?_
 refine cC (fun c0 => ?_) (fun c0 => ?_)
 · skip
   refine D ?_
   refine E ?_
   first
   | exact trivial
   | simp [szMux, szT, *]
 · skip
   refine D ?_
   refine kR (s_laws_szInt64SS x.tables _ hwl.1 hwl.2 hq.2.1.1 hq.2.1.2) ?_
   refine D ?_
   refine cC (fun c1 => ?_) (fun c1 => ?_)
   · skip
     refine D ?_
     refine E ?_
     first
     | exact trivial
     | simp [szMux, szT, *]
   · skip
     refine D ?_
     refine kR (s_laws_szHeldS (x.cache.map eHeld) _ hil.1 hil.2 (by simp only [List.length_map]; exact hq.2.2)) ?_
     refine D ?_
     refine cC (fun c2 => ?_) (fun c2 => ?_)
     · skip
       refine D ?_
       refine E ?_
       first
       | exact trivial
       | simp [szMux, szT, *]
     · skip
       refine D ?_
       refine E ?_
       first
       | exact trivial
       | simp [szMux, szT, *]
end Go.H
end
section
set_option linter.unusedVariables false
set_option linter.unusedSimpArgs false
namespace Go.H
open Go
instance decBackend : DecidableEq Backend := fun a b =>
  if h : a.name = b.name ∧ a.address = b.address ∧ a.weight = b.weight ∧ a.stage = b.stage ∧ a.up = b.up then isTrue (by cases a; cases b; simp_all) else isFalse (fun e => h (by subst e; simp))
instance decVip : DecidableEq Vip := fun a b =>
  if h : a.address = b.address ∧ a.port = b.port ∧ a.proto = b.proto ∧ a.names = b.names then isTrue (by cases a; cases b; simp_all) else isFalse (fun e => h (by subst e; simp))
instance decConfig : DecidableEq Config := fun a b =>
  if h : a.version = b.version ∧ a.backends = b.backends ∧ a.vips = b.vips then isTrue (by cases a; cases b; simp_all) else isFalse (fun e => h (by subst e; simp))
theorem eq_backend {a b : Backend} : a = b ↔ (a.name = b.name ∧ a.address = b.address ∧ a.weight = b.weight ∧ a.stage = b.stage ∧ a.up = b.up) := ⟨fun e => by subst e; simp, fun h => by cases a; cases b; simp_all⟩
theorem eq_vip {a b : Vip} : a = b ↔ (a.address = b.address ∧ a.port = b.port ∧ a.proto = b.proto ∧ a.names = b.names) := ⟨fun e => by subst e; simp, fun h => by cases a; cases b; simp_all⟩
theorem eq_config {a b : Config} : a = b ↔ (a.version = b.version ∧ a.backends = b.backends ∧ a.vips = b.vips) := ⟨fun e => by subst e; simp, fun h => by cases a; cases b; simp_all⟩
def addK (cs : List Cmd) (x : Entry) (r : MachineResult) : List Cmd := if freshM r = true then cs ++ [x.cmd] else cs
def repC : List Entry → Machine → Int
  | [], _ => 0
  | x :: xs, m => if entryFault x ≠ 0 then entryFault x else if (enterM m x).code ≠ 0 then (enterM m x).code else repC xs (enterM m x).machine
def repS : List Entry → Machine → List Cmd → List Cmd
  | [], _, cs => cs
  | x :: xs, m, cs => if entryFault x ≠ 0 then cs else if (enterM m x).code ≠ 0 then cs else repS xs (enterM m x).machine (addK cs x (enterM m x))
def repK : List Entry → Machine → Nat → Nat
  | [], _, k => k
  | x :: xs, m, k => if entryFault x ≠ 0 then k else if (enterM m x).code ≠ 0 then k else repK xs (enterM m x).machine (k + 1)
def replayS (xs : List Entry) : List Cmd := if 200 < xs.length then [] else repS xs zMachine []
def replayK (xs : List Entry) : Nat := if 200 < xs.length then 0 else repK xs zMachine 0
theorem repC_drop {xs : List Entry} {i : Nat} (h : i < xs.length) (m : Machine) :
    repC (xs.drop i) m = if entryFault (xs.getD i zEntry) ≠ 0 then entryFault (xs.getD i zEntry) else if (enterM m (xs.getD i zEntry)).code ≠ 0 then (enterM m (xs.getD i zEntry)).code else repC (xs.drop (i + 1)) (enterM m (xs.getD i zEntry)).machine := by
  rw [drop_getD zEntry h, repC]
theorem repS_drop {xs : List Entry} {i : Nat} (h : i < xs.length) (m : Machine) (cs : List Cmd) :
    repS (xs.drop i) m cs = if entryFault (xs.getD i zEntry) ≠ 0 then cs else if (enterM m (xs.getD i zEntry)).code ≠ 0 then cs else repS (xs.drop (i + 1)) (enterM m (xs.getD i zEntry)).machine (addK cs (xs.getD i zEntry) (enterM m (xs.getD i zEntry))) := by
  rw [drop_getD zEntry h, repS]
theorem repK_drop {xs : List Entry} {i : Nat} (h : i < xs.length) (m : Machine) (k : Nat) :
    repK (xs.drop i) m k = if entryFault (xs.getD i zEntry) ≠ 0 then k else if (enterM m (xs.getD i zEntry)).code ≠ 0 then k else repK (xs.drop (i + 1)) (enterM m (xs.getD i zEntry)).machine (k + 1) := by
  rw [drop_getD zEntry h, repK]
theorem repS_end (xs : List Entry) (m : Machine) (cs : List Cmd) : repS (xs.drop xs.length) m cs = cs := by rw [List.drop_length, repS]
theorem repK_end (xs : List Entry) (m : Machine) (k : Nat) : repK (xs.drop xs.length) m k = k := by rw [List.drop_length, repK]
theorem addK_len (cs : List Cmd) (x : Entry) (r : MachineResult) : (addK cs x r).length ≤ cs.length + 1 := by
  unfold addK
  split <;> simp
theorem repR_code : ∀ {xs : List Entry} {m : Machine} {rp : Int} {al : List Config}, (repR xs m rp al).1.code = repC xs m
  | [], _, _, _ => rfl
  | x :: xs, m, rp, al => by
    rw [repR, repC]
    split
    · rfl
    split
    · rfl
    exact repR_code
theorem replay_code {xs : List Entry} (h : xs.length ≤ 200) : (replayM xs).1.code = repC xs zMachine := by
  unfold replayM
  rw [if_neg (by omega), repR_code]
theorem repA_S : ∀ {xs : List Entry} {m : Machine} {al : List Config} {cs : List Cmd}, al.length = cs.length + 1 → (repA xs m al).length = (repS xs m cs).length + 1
  | [], _, _, _, h => h
  | x :: xs, m, al, cs, h => by
    rw [repA, repS]
    split
    · exact h
    split
    · exact h
    refine repA_S ?_
    unfold addC addK
    split
    · simp [h]
    · exact h
theorem replayA_S (xs : List Entry) : (replayA xs).length = (replayS xs).length + 1 := by
  unfold replayA replayS
  split
  · rfl
  · exact repA_S rfl
theorem repA_le : ∀ {xs : List Entry} {m : Machine} {al : List Config}, (repA xs m al).length ≤ al.length + xs.length
  | [], _, _ => by simp [repA]
  | x :: xs, m, al => by
    rw [repA]
    split
    · omega
    split
    · omega
    have := repA_le (xs := xs) (m := (enterM m x).machine) (al := addC al (enterM m x))
    have := addC_len al (enterM m x)
    simp only [List.length_cons]
    omega
theorem repA_lim : ∀ {xs : List Entry} {m : Machine} {al : List Config}, MaP m → (∀ y ∈ al, limG 1048576 y) → ∀ y ∈ repA xs m al, limG 1048576 y
  | [], m, al, P, h => h
  | x :: xs, m, al, P, h => by
    rw [repA]
    split
    · exact h
    split
    · exact h
    rename_i h1 h2
    have P2 := enterM_p P (x := x) (by omega) (by omega)
    refine repA_lim P2 fun y hy => ?_
    unfold addC at hy
    split at hy
    · rcases List.mem_append.1 hy with hy | hy
      · exact h y hy
      · rw [List.mem_singleton] at hy
        rw [hy]
        exact P2.lim.1
    · exact h y hy
theorem replayA_lim (xs : List Entry) : (∀ y ∈ replayA xs, limG 1048576 y) ∧ (replayA xs).length ≤ 201 := by
  have hz : ∀ y ∈ [zConfig], limG 1048576 y := fun y hy => by rw [List.mem_singleton] at hy; rw [hy]; exact zConfig_lim _
  unfold replayA
  split
  · exact ⟨hz, by simp⟩
  · refine ⟨repA_lim maP_zero hz, ?_⟩
    have := repA_le (xs := xs) (m := zMachine) (al := [zConfig])
    simp only [List.length_singleton] at this
    omega
theorem replayS_len (xs : List Entry) : (replayS xs).length ≤ 200 := by
  have h1 := replayA_S xs
  have h2 := (replayA_lim xs).2
  omega
def badF (k : Int) : FleetResult := ⟨k, 0, 0, [], zFleet⟩
def okF (f : Fleet) : FleetResult := ⟨0, 0, 0, [], f⟩
def readyBad (all : List Config) (m : Mux) : Bool := m.watch.ready && (decide ((all.length : Int) ≤ m.watch.config.version) || !decide (m.watch.config = all.getD m.watch.config.version.toNat zConfig))
def muxAt (all : List Config) (ms : List Mux) (i : Nat) : Int :=
  if muxFault (ms.getD i zMux) ≠ 0 then muxFault (ms.getD i zMux) else
  if (ms.getD i zMux).address ≠ 600 + i ∨ readyBad all (ms.getD i zMux) = true then 1 else 0
def fleetFault (f : Fleet) : Int :=
  if 80 < f.agreed.length ∨ f.muxes.length < 1 ∨ 3 < f.muxes.length then 2 else
  if (replayM f.agreed).1.code ≠ 0 then (replayM f.agreed).1.code else scan (muxAt (replayM f.agreed).2 f.muxes) f.muxes.length 0
def agreeF (f : Fleet) (x : Entry) : FleetResult :=
  if fleetFault f ≠ 0 then badF (fleetFault f) else
  if entryFault x ≠ 0 then badF (entryFault x) else
  if 80 ≤ f.agreed.length then badF 2 else
  if (replayM (f.agreed ++ [x])).1.code ≠ 0 then badF (replayM (f.agreed ++ [x])).1.code else okF ⟨f.agreed ++ [x], f.muxes⟩
def askedF (f : Fleet) (mux : Int) : Int := if fleetFault f ≠ 0 then fleetFault f else if !inR mux 0 (f.muxes.length - 1) then 3 else 0
def freshX (mux : Int) : Mux := ⟨600 + mux, 0, zWatch, [], []⟩
def restartF (f : Fleet) (mux : Int) : FleetResult := if askedF f mux ≠ 0 then badF (askedF f mux) else okF ⟨f.agreed, f.muxes.set mux.toNat (freshX mux)⟩
def tickAt (ms : List Mux) (n : Int) (i : Nat) : Int := (tickM (ms.getD i zMux) n).code
def tickF (f : Fleet) (n : Int) : FleetResult :=
  if fleetFault f ≠ 0 then badF (fleetFault f) else
  if scan (tickAt f.muxes n) f.muxes.length 0 ≠ 0 then badF (scan (tickAt f.muxes n) f.muxes.length 0) else okF ⟨f.agreed, f.muxes.map fun m => (tickM m n).mux⟩
structure FlP (f : Fleet) : Prop where
  n1 : f.agreed.length ≤ 80
  n2 : 1 ≤ f.muxes.length
  n3 : f.muxes.length ≤ 3
  rp : (replayM f.agreed).1.code = 0
  mx : ∀ i, i < f.muxes.length → muxFault (f.muxes.getD i zMux) = 0
  ad : ∀ i, i < f.muxes.length → (f.muxes.getD i zMux).address = 600 + i
  rd : ∀ i, i < f.muxes.length → readyBad (replayM f.agreed).2 (f.muxes.getD i zMux) = false
theorem fleet_p {f : Fleet} (h : fleetFault f = 0) : FlP f := by
  unfold fleetFault at h
  split at h
  · exact absurd h (by decide)
  rename_i h1
  split at h
  · rename_i h2; exact absurd h h2
  rename_i h2
  have h3 := scan_zero.1 h
  have h4 : ∀ i, i < f.muxes.length → muxFault (f.muxes.getD i zMux) = 0 ∧ (f.muxes.getD i zMux).address = 600 + i ∧ readyBad (replayM f.agreed).2 (f.muxes.getD i zMux) = false := by
    intro i hi
    have h5 := h3 i (Nat.zero_le _) hi
    unfold muxAt at h5
    split at h5
    · rename_i h6; exact absurd h5 h6
    rename_i h6
    split at h5
    · exact absurd h5 (by decide)
    rename_i h7
    refine ⟨by omega, ?_, ?_⟩
    · by_cases e : (f.muxes.getD i zMux).address = 600 + i
      · exact e
      · exact absurd (Or.inl e) h7
    · rw [← Bool.not_eq_true]
      intro e
      exact h7 (Or.inr e)
  exact ⟨by omega, by omega, by omega, by omega, fun i hi => (h4 i hi).1, fun i hi => (h4 i hi).2.1, fun i hi => (h4 i hi).2.2⟩
theorem cmpV_zero (a b : Vip) : decide (cmpV a b = 0) = (decide (a.address = b.address) && (decide (a.port = b.port) && decide (a.proto = b.proto))) := by
  unfold cmpV cmpI
  grind
theorem same_vip (a b : Vip) : decide (a = b) = (decide (cmpV a b = 0) && decide (a.names = b.names)) := by
  rw [cmpV_zero, Bool.eq_iff_iff]
  simp [eq_vip, and_assoc]
def verS (xs : List Entry) : List Cmd := if (replayM xs).1.code ≠ 0 then [] else replayS xs
theorem replay_bad {xs : List Entry} (h : (replayM xs).1.code ≠ 0) : (replayM xs).2 = [] := by
  have key : ∀ (xs : List Entry) (m : Machine) (rp : Int) (al : List Config), (repR xs m rp al).1.code ≠ 0 → (repR xs m rp al).2 = [] := by
    intro xs
    induction xs with
    | nil => intro m rp al h; exact absurd rfl h
    | cons x xs ih =>
      intro m rp al h
      rw [repR] at h ⊢
      split at h
      · rename_i h1; rw [if_pos h1]
      rename_i h1
      rw [if_neg h1]
      split at h
      · rename_i h2; rw [if_pos h2]
      rename_i h2
      rw [if_neg h2]
      exact ih _ _ _ h
  unfold replayM at h ⊢
  split
  · rfl
  · rename_i h1
    rw [if_neg h1] at h
    exact key _ _ _ _ h
theorem replay_len {xs : List Entry} (h : (replayM xs).1.code = 0) : (replayM xs).2.length = (replayS xs).length + 1 ∧ (replayM xs).2.length ≤ 201 := by
  rw [replayA_eq h]
  exact ⟨replayA_S xs, (replayA_lim xs).2⟩
def lookA (f : Fleet) : List Config := if fleetFault f ≠ 0 then [] else (replayM f.agreed).2
def lookS (f : Fleet) : List Cmd := if fleetFault f ≠ 0 then [] else replayS f.agreed
theorem machineMa {m : Machine} (P : MaP m) : machineFault m = 0 := ma_fault P.cf P.ok
theorem replay_ok {xs : List Entry} (h : (replayM xs).1.code = 0) : xs.length ≤ 200 := by
  unfold replayM at h
  split at h
  · exact absurd h (by decide)
  · omega
theorem repC_ok {x : Entry} {m : Machine} {c d : Int} (h : c = if entryFault x ≠ 0 then entryFault x else if (enterM m x).code ≠ 0 then (enterM m x).code else d) (hc : c = 0) : entryFault x = 0 ∧ (enterM m x).code = 0 := by
  grind
theorem getD_lim {xs : List Config} {b : Nat} (h : ∀ y ∈ xs, limG b y) (v : Nat) : limG b (xs.getD v zConfig) := by
  rw [List.getD_eq_getElem?_getD]
  by_cases hv : v < xs.length
  · rw [List.getElem?_eq_getElem hv]
    exact h _ (List.getElem_mem hv)
  · rw [List.getElem?_eq_none (by omega)]
    exact zConfig_lim b
def tkR (ms : List Mux) (n : Int) (i : Nat) : List Mux := (ms.take i).map (fun m => (tickM m n).mux) ++ ms.drop i
theorem tkR_len (ms : List Mux) (n : Int) (i : Nat) : (tkR ms n i).length = ms.length := by
  unfold tkR
  simp
  omega
theorem tkR_getD {ms : List Mux} {n : Int} {i : Nat} (h : i < ms.length) : (tkR ms n i).getD i zMux = ms.getD i zMux := by
  unfold tkR
  rw [List.getD_eq_getElem?_getD, List.getElem?_append_right (by simp; omega), List.getElem?_drop, List.getD_eq_getElem?_getD]
  congr 2
  simp
  omega
theorem tkR_set {ms : List Mux} {n : Int} {i : Nat} (h : i < ms.length) : (tkR ms n i).set i (tickM (ms.getD i zMux) n).mux = tkR ms n (i + 1) := by
  unfold tkR
  rw [drop_getD zMux h, List.set_append_right _ _ (by simp; omega), take_snoc zMux h, List.map_append]
  have : i - ((ms.take i).map fun m => (tickM m n).mux).length = 0 := by simp; omega
  rw [this]
  simp
theorem tkR_zero (ms : List Mux) (n : Int) : tkR ms n 0 = ms := by simp [tkR]
theorem tkR_end (ms : List Mux) (n : Int) : tkR ms n ms.length = ms.map fun m => (tickM m n).mux := by simp [tkR]
def szXs : List Mux → Int → Int
  | [], l => l
  | x :: xs, l => szT (szMux x l) (szXs xs)
def szXS (xs : List Mux) (l : Int) : Int := szT (szL xs.length l) (szXs xs)
def szFleet (x : Fleet) (l : Int) : Int := szT (szL x.agreed.length l) fun l => szT (szXS x.muxes l) fun l => l
theorem szXs_lo : ∀ (xs : List Mux) (l : Int), -1 ≤ l → l ≤ 1048576 → -1 ≤ szXs xs l ∧ szXs xs l ≤ 1048576
  | [], l, h1, h2 => ⟨h1, h2⟩
  | x :: xs, l, h1, h2 => by
    have h4 := szMux_lo x l h2
    have h3 := szXs_lo xs (szMux x l) h4.1 h4.2
    exact ⟨szT_lo fun _ => h3.1, szT_hi (by omega) h3.2⟩
theorem szXS_lo (xs : List Mux) (l : Int) (h : l ≤ 1048576) : -1 ≤ szXS xs l ∧ szXS xs l ≤ 1048576 := by
  have := szXs_lo xs _ (szL_lo xs.length l) (szL_hi h (by omega))
  exact ⟨szT_lo fun _ => this.1, szT_hi (by omega) this.2⟩
theorem szFleet_lo (x : Fleet) (l : Int) (h : l ≤ 1048576) : -1 ≤ szFleet x l ∧ szFleet x l ≤ 1048576 := by
  have h1 := szL_hi (n := x.agreed.length) h (by omega)
  have h2 := szXS_lo x.muxes (szL x.agreed.length l) h1
  exact ⟨szT_lo fun _ => szT_lo fun _ => h2.1, szT_hi (by omega) (szT_hi (by omega) h2.2)⟩
theorem szXs_lim : ∀ {xs : List Mux} {l : Int}, 0 ≤ szXs xs l → l ≤ 1048576 → ∀ y ∈ xs, limX 1048576 y
  | [], _, _, _ => by simp
  | x :: xs, l, h, hl => by
    obtain ⟨a1, a2, _⟩ := szT_ge h
    have b1 := szMux_lim a1 hl
    intro y hy
    rcases List.mem_cons.1 hy with rfl | hy
    · exact b1
    · exact szXs_lim a2 (szMux_lo x l hl).2 y hy
def limF (b : Nat) (f : Fleet) : Prop := f.agreed.length ≤ b ∧ f.muxes.length ≤ b ∧ ∀ m ∈ f.muxes, limX b m
theorem szFleet_lim {x : Fleet} {l : Int} (h : 0 ≤ szFleet x l) (hl : l ≤ 1048576) : limF 1048576 x := by
  unfold szFleet at h
  obtain ⟨a1, a2, _⟩ := szT_ge h
  obtain ⟨b1, _, _⟩ := szT_ge a2
  have e1 := szL_ge a1
  unfold szXS at b1
  obtain ⟨c1, c2, _⟩ := szT_ge b1
  have h1 := szL_hi (n := x.agreed.length) hl (by omega)
  have e2 := szL_ge c1
  exact ⟨by omega, by omega, szXs_lim c2 (szL_hi h1 (by omega))⟩
theorem limF_mono {a b : Nat} (h : a ≤ b) {x : Fleet} (hx : limF a x) : limF b x := ⟨Nat.le_trans hx.1 h, Nat.le_trans hx.2.1 h, fun m hm => limX_mono h (hx.2.2 m hm)⟩
def mXs (x : Mux) (k : Int) : Mux :=
  ⟨k, k + 1, ⟨decide ((k + 1 + 1).tmod 3 = 0), ⟨k + 1 + 1 + 1, mkL mB sB x.watch.config.backends (k + 1 + 1 + 1 + 1), mkL mV sV x.watch.config.vips (mkK sB x.watch.config.backends (k + 1 + 1 + 1 + 1))⟩⟩,
    mkL mLI sLI x.tables (mkK sV x.watch.config.vips (mkK sB x.watch.config.backends (k + 1 + 1 + 1 + 1))), mkL mH sH x.cache (mkK sLI x.tables (mkK sV x.watch.config.vips (mkK sB x.watch.config.backends (k + 1 + 1 + 1 + 1))))⟩
def sXs (x : Mux) (k : Int) : Int := mkK sH x.cache (mkK sLI x.tables (mkK sV x.watch.config.vips (mkK sB x.watch.config.backends (k + 1 + 1 + 1 + 1))))
theorem sXs_up (x : Mux) (k : Int) : k ≤ sXs x k := by
  have h1 := mkK_mono sB_up x.watch.config.backends (k + 1 + 1 + 1 + 1)
  have h2 := mkK_mono sV_up x.watch.config.vips (mkK sB x.watch.config.backends (k + 1 + 1 + 1 + 1))
  have h3 := mkK_mono sLI_up x.tables (mkK sV x.watch.config.vips (mkK sB x.watch.config.backends (k + 1 + 1 + 1 + 1)))
  have h4 := mkK_mono sH_up x.cache (mkK sLI x.tables (mkK sV x.watch.config.vips (mkK sB x.watch.config.backends (k + 1 + 1 + 1 + 1))))
  unfold sXs; omega
theorem sXs_bd {x : Mux} (hx : limX 1048577 x) (k : Int) : sXs x k ≤ k + 2199060000000 := by
  have h1 := mkB_bd x.watch.config.backends (k + 1 + 1 + 1 + 1)
  have h2 := mkV_bd hx.1.2.2 (mkK sB x.watch.config.backends (k + 1 + 1 + 1 + 1))
  have h3 := mkLI_bd hx.2.2.1 (mkK sV x.watch.config.vips (mkK sB x.watch.config.backends (k + 1 + 1 + 1 + 1)))
  have h4 := mkH_bd x.cache (mkK sLI x.tables (mkK sV x.watch.config.vips (mkK sB x.watch.config.backends (k + 1 + 1 + 1 + 1))))
  have h5 := hx.1.1
  have h6 := hx.1.2.1
  have h7 : (((1048577 : Nat) : Int) + 3) * x.watch.config.vips.length ≤ (((1048577 : Nat) : Int) + 3) * 1048577 := Int.mul_le_mul_of_nonneg_left (by omega) (by omega)
  have h8 : ((1048577 : Nat) : Int) * x.tables.length ≤ ((1048577 : Nat) : Int) * 1048577 := Int.mul_le_mul_of_nonneg_left (by have := hx.2.1; omega) (by omega)
  have h9 := hx.2.2.2
  unfold sXs
  omega
theorem mkXs_bd {xs : List Mux} (h : ∀ y ∈ xs, limX 1048577 y) (hl : xs.length ≤ 1048577) {k : Int} : mkK sXs xs k ≤ k + 2310000000000000000 := by
  have h1 : mkK sXs xs k ≤ k + 2199060000000 * xs.length := mkK_bd (by omega) fun x hx k => sXs_bd (h x hx) k
  omega
def mF (x : Fleet) (k : Int) : Fleet := ⟨mkL mE sE x.agreed k, mkL mXs sXs x.muxes (mkK sE x.agreed k)⟩
def sF (x : Fleet) (k : Int) : Int := mkK sXs x.muxes (mkK sE x.agreed k)
theorem sF_up (x : Fleet) (k : Int) : k ≤ sF x k := by
  have h1 := mkK_mono sE_up x.agreed k
  have h2 := mkK_mono sXs_up x.muxes (mkK sE x.agreed k)
  unfold sF; omega
theorem sF_bd {x : Fleet} (hx : limF 1048577 x) (k : Int) : sF x k ≤ k + 2310000000010000000 := by
  have h1 := mkE_bd x.agreed k
  have h2 := mkXs_bd hx.2.2 hx.2.1 (k := mkK sE x.agreed k)
  have h3 := hx.1
  unfold sF
  omega
def mFR (r : FleetResult) (k : Int) : FleetResult := ⟨r.code, r.why, r.name, mkL mY sY r.out k, mF r.fleet (mkK sY r.out k)⟩
def sFR (r : FleetResult) (k : Int) : Int := sF r.fleet (mkK sY r.out k)
theorem sFR_up (r : FleetResult) (k : Int) : k ≤ sFR r k := by
  have h1 := mkK_mono sY_up r.out k
  have h2 := sF_up r.fleet (mkK sY r.out k)
  unfold sFR; omega
def limFR (b : Nat) (r : FleetResult) : Prop := r.out.length ≤ b ∧ limF b r.fleet
theorem sFR_bd {r : FleetResult} (hr : limFR 1048577 r) (k : Int) : sFR r k ≤ k + 2310000000020000000 := by
  have h1 := mkY_bd r.out k
  have h2 := hr.1
  have h3 := sF_bd hr.2 (mkK sY r.out k)
  unfold sFR
  omega
theorem zFleet_lim (b : Nat) : limF b zFleet := ⟨by simp [zFleet], by simp [zFleet], by simp [zFleet]⟩
theorem badF_lim (b : Nat) (k : Int) : limFR b (badF k) := ⟨by simp [badF], zFleet_lim b⟩
theorem freshX_lim (b : Nat) (k : Int) : limX b (freshX k) := ⟨zConfig_lim b, by simp [freshX], by simp [freshX], by simp [freshX]⟩
theorem agree_lim {f : Fleet} {b : Nat} (hb : 81 ≤ b) (hf : limF b f) (x : Entry) : limFR b (agreeF f x) := by
  unfold agreeF
  repeat' split
  · exact badF_lim b _
  · exact badF_lim b _
  · exact badF_lim b _
  · exact badF_lim b _
  · exact ⟨by simp [okF], by simp [okF]; omega, hf.2.1, hf.2.2⟩
theorem restart_lim {f : Fleet} {b : Nat} (hf : limF b f) (mux : Int) : limFR b (restartF f mux) := by
  unfold restartF
  split
  · exact badF_lim b _
  · refine ⟨by simp [okF], hf.1, by simp [okF]; exact hf.2.1, fun m hm => ?_⟩
    rcases List.mem_or_eq_of_mem_set hm with h | h
    · exact hf.2.2 m h
    · rw [h]; exact freshX_lim b mux
theorem tickF_lim {f : Fleet} {b : Nat} (hf : limF b f) (n : Int) : limFR b (tickF f n) := by
  unfold tickF
  split
  · exact badF_lim b _
  split
  · exact badF_lim b _
  · refine ⟨by simp [okF], hf.1, by simp [okF]; exact hf.2.1, fun m hm => ?_⟩
    obtain ⟨a, ha, rfl⟩ := List.mem_map.1 hm
    exact (tick_lim (hf.2.2 a ha) n).2
def servedBad (all : List Config) (i : Nat) : Int :=
  if configFault (all.getD i zConfig) ≠ 0 then configFault (all.getD i zConfig) else if (all.getD i zConfig).version ≠ (all.getD 0 zConfig).version + i then 1 else 0
def servedM (all : List Config) (cmds : List Cmd) : Int :=
  if all.length < 1 ∨ 60 < all.length ∨ cmds.length + 1 ≠ all.length then 2 else
  if scan (servedBad all) all.length 0 ≠ 0 then scan (servedBad all) all.length 0 else scan (cmdBad cmds) cmds.length 0
def lastC (all : List Config) : Config := all.getD (all.length - 1) zConfig
def serveM (all : List Config) (cmds : List Cmd) (from_ : Int) : UpdateResult :=
  if servedM all cmds ≠ 0 then badU (servedM all cmds) else if from_ < 0 then badU 3 else
  if (all.getD 0 zConfig).version ≤ from_ ∧ (lastC all).version - 4 ≤ from_ ∧ from_ ≤ (lastC all).version - 1 then ⟨0, ⟨from_, (lastC all).version, false, zConfig, cmds.drop (from_ - (all.getD 0 zConfig).version).toNat⟩⟩
  else ⟨0, ⟨0, (lastC all).version, true, lastC all, []⟩⟩
structure SvP (all : List Config) (cmds : List Cmd) : Prop where
  l1 : 1 ≤ all.length
  l2 : all.length ≤ 60
  l3 : cmds.length + 1 = all.length
  cf : ∀ i, i < all.length → configFault (all.getD i zConfig) = 0
  vs : ∀ i : Nat, i < all.length → (all.getD i zConfig).version = (all.getD 0 zConfig).version + i
  cm : ∀ i, i < cmds.length → cmdFault (cmds.getD i zCmd) = 0
theorem served_p {all : List Config} {cmds : List Cmd} (h : servedM all cmds = 0) : SvP all cmds := by
  unfold servedM at h
  split at h
  · exact absurd h (by decide)
  rename_i h1
  split at h
  · rename_i h2; exact absurd h h2
  rename_i h2
  have h3 := scan_zero.1 h
  have h4 := scan_zero.1 (show scan (servedBad all) all.length 0 = 0 by omega)
  have h5 : ∀ i, i < all.length → configFault (all.getD i zConfig) = 0 ∧ (all.getD i zConfig).version = (all.getD 0 zConfig).version + i := by
    intro i hi
    have h6 := h4 i (Nat.zero_le _) hi
    unfold servedBad at h6
    split at h6
    · rename_i h7; exact absurd h6 h7
    split at h6
    · exact absurd h6 (by decide)
    · exact ⟨by omega, by omega⟩
  exact ⟨by omega, by omega, by omega, fun i hi => (h5 i hi).1, fun i hi => (h5 i hi).2, fun i hi => h3 i (Nat.zero_le _) hi⟩
theorem served_last {all : List Config} {cmds : List Cmd} (P : SvP all cmds) : configFault (lastC all) = 0 ∧ (lastC all).version = (all.getD 0 zConfig).version + cmds.length := by
  have h1 := P.l1
  have h3 := P.l3
  have hv := P.vs (all.length - 1) (by omega)
  refine ⟨P.cf _ (by omega), ?_⟩
  unfold lastC
  rw [hv]
  omega
theorem cf_ver {c : Config} (h : configFault c = 0) : 0 ≤ c.version ∧ c.version ≤ 1000000 :=
   ⟨(cf_ok h).v0, (cf_ok h).v1⟩
theorem serve_up {all : List Config} {cmds : List Cmd} {from_ : Int} (h : (serveM all cmds from_).code = 0) : updateFault (serveM all cmds from_).update = 0 := by
  unfold serveM at h ⊢
  split at h
  · rename_i h1; exact absurd h h1
  rename_i h1
  split at h
  · exact absurd h (by decide)
  rename_i h2
  rw [if_neg h1, if_neg h2]
  have P := served_p (show servedM all cmds = 0 by omega)
  obtain ⟨c1, c2⟩ := served_last P
  have c3 := cf_ver c1
  have c4 := cf_ver (P.cf 0 P.l1)
  split
  · rename_i h3
    unfold updateFault
    have e1 : inR from_ 0 1000000 = true := by simp [inR]; omega
    have e2 : inR (lastC all).version 0 1000000 = true := by simp [inR]; omega
    have e3 : cfgZero zConfig = true := by decide
    simp only [e1, e2, e3, Bool.not_true, Bool.or_self, Bool.false_eq_true, if_false, reduceCtorEq, List.length_drop]
    rw [if_neg (by omega), if_neg (by omega)]
    rw [scan_zero]
    intro i _ hi
    unfold cmdBad
    have : (cmds.drop (from_ - (all.getD 0 zConfig).version).toNat).getD i zCmd = cmds.getD ((from_ - (all.getD 0 zConfig).version).toNat + i) zCmd := by
      rw [List.getD_eq_getElem?_getD, List.getElem?_drop, ← List.getD_eq_getElem?_getD]
    rw [this]
    exact P.cm _ (by omega)
  · unfold updateFault
    have e1 : inR 0 0 1000000 = true := by decide
    have e2 : inR (lastC all).version 0 1000000 = true := by simp [inR]; omega
    simp [e1, e2, c1]
theorem serve_lim {all : List Config} {cmds : List Cmd} {from_ : Int} {b : Nat} (hb : 1048576 ≤ b) (h : (serveM all cmds from_).code = 0) : limU b (serveM all cmds from_).update := by
  have hu := serve_up h
  unfold serveM at h ⊢
  split at h
  · rename_i h1; exact absurd h h1
  rename_i h1
  split at h
  · exact absurd h (by decide)
  rename_i h2
  rw [if_neg h1, if_neg h2]
  have P := served_p (show servedM all cmds = 0 by omega)
  obtain ⟨c1, c2⟩ := served_last P
  have := P.l2
  have := P.l3
  split
  · exact ⟨zConfig_lim b, by simp only [List.length_drop]; omega⟩
  · exact ⟨limG_mono hb (cf_l c1), by simp⟩
def syncU (f : Fleet) (mux upto : Int) : UpdateResult :=
  serveM ((replayM f.agreed).2.take (upto + 1).toNat) ((replayS f.agreed).take upto.toNat) (if (f.muxes.getD mux.toNat zMux).watch.ready = true then (f.muxes.getD mux.toNat zMux).watch.config.version else 81)
def syncF (f : Fleet) (mux upto : Int) : FleetResult :=
  if askedF f mux ≠ 0 then badF (askedF f mux) else
  if !inR upto 0 ((replayM f.agreed).2.length - 1) then badF 3 else
  if (syncU f mux upto).code ≠ 0 then badF (syncU f mux upto).code else
  if (installW (f.muxes.getD mux.toNat zMux) (syncU f mux upto).update).code ≠ 0 then badF (installW (f.muxes.getD mux.toNat zMux) (syncU f mux upto).update).code else
  okF ⟨f.agreed, f.muxes.set mux.toNat (installW (f.muxes.getD mux.toNat zMux) (syncU f mux upto).update).mux⟩
theorem asked_ok {f : Fleet} {mux : Int} (h : askedF f mux = 0) : fleetFault f = 0 ∧ 0 ≤ mux ∧ mux < f.muxes.length := by
  unfold askedF at h
  split at h
  · rename_i h1; exact absurd h h1
  split at h
  · exact absurd h (by decide)
  rename_i h1 h2
  simp [inR] at h2
  omega
theorem sync_lim {f : Fleet} {b : Nat} (hb : 1048576 ≤ b) (hf : limF b f) (mux upto : Int) : limFR b (syncF f mux upto) := by
  unfold syncF
  split
  · exact badF_lim b _
  rename_i h1
  split
  · exact badF_lim b _
  split
  · exact badF_lim b _
  split
  · exact badF_lim b _
  obtain ⟨h2, h3, h4⟩ := asked_ok (show askedF f mux = 0 by omega)
  have hm := (fleet_p h2).mx mux.toNat (by omega)
  refine ⟨by simp [okF], hf.1, by simp [okF]; exact hf.2.1, fun m hm2 => ?_⟩
  rcases List.mem_or_eq_of_mem_set hm2 with h | h
  · exact hf.2.2 m h
  · rw [h]; exact (install_lim hb (hf.2.2 _ (getD_mem zMux (by omega))) _ (mux_ok hm).2.1).2
end Go.H
end
section
set_option maxRecDepth 100000
set_option maxHeartbeats 4000000
set_option cbv.maxSteps 4000000
set_option linter.unusedVariables false
set_option linter.unusedSimpArgs false
namespace Go.H
open Go Go.Proofs.Tryz
variable [Inv prog]
theorem s_laws_szMuxS (xs : List Mux) (l : Int) (h0 : -1 ≤ l) (h1 : l ≤ 1048576) (hl : xs.length ≤ 9223372036854775807) (hm : ∀ y ∈ xs, qMux y) : SemX prog 76 [aT (.sl false 8 (xs.map (eMux false))), aI l] [] [rI (szXS xs l)] [] := by
 refine goF [] [] [] func76 ?_
 refine D ?_
 refine cC (fun c0 => ?_) (fun c0 => ?_)
 · skip
   refine D ?_
   refine E ?_
   simp [szXS, szL, szT, *]
 · skip
   refine D ?_
   refine L (α := (Nat × Int)) (fun x => [(1, .int .i64 x.2), (5, .int .i64 x.1)]) (fun x => []) (fun x => xs.length - x.1) (fun x => x.1 ≤ xs.length ∧ -1 ≤ x.2 ∧ x.2 ≤ 1048576 ∧ szXs xs (szL xs.length l) = szXs (xs.drop x.1) x.2) (0, szL xs.length l) [] (fun x0 hL => ?_) (by simp only [go_sem] <;> and_intros <;> first | with_reducible exact rfl | (first | omega | (simp [szL, *]; done))) (by refine ⟨Nat.zero_le _, szL_lo _ _, szL_hi h1 (by omega), rfl⟩)
   obtain ⟨i, m⟩ := x0
   obtain ⟨hi, hm1, hm2, he⟩ := hL
   try dsimp only at *
   refine D ?_
   refine cC (fun c1 => ?_) (fun c1 => ?_)
   · skip
     have hq := hm _ (getD_mem zMux (show i < xs.length by omega))
     refine D ?_
     refine kR (s_laws_szMux (xs.getD i zMux) m hm1 hm2 hq) ?_
     refine D ?_
     refine cC (fun c2 => ?_) (fun c2 => ?_)
     · skip
       refine D ?_
       refine E ?_
       have := szL_lo xs.length l
       rw [szXS, szT, if_neg (by unfold szL; split <;> omega), he, drop_getD zMux (by omega)]
       simp [szXs, szT, *, -List.getD_eq_getElem?_getD]
     · skip
       refine D ?_
       refine lp_next (i + 1, szMux (xs.getD i zMux) m) [] ?_ ?_ ?_
       · simp only [go_sem] <;> and_intros <;> first | with_reducible exact rfl | (first | omega | (simp [szL, *]; done))
       · refine ⟨by omega, (szMux_lo _ _ hm2).1, (szMux_lo _ _ hm2).2, ?_⟩
         rw [he, drop_getD zMux (by omega)]
         simp [szXs, szT, *, -List.getD_eq_getElem?_getD]
       · try dsimp only
         omega
   · skip
     obtain rfl : i = xs.length := by omega
     refine D ?_
     refine E ?_
     first
     | exact trivial
     | rw [szXS, szT, if_neg (by unfold szL; split <;> omega), he]
       simp [szXs]
end Go.H
end
