/- What the functions that several laws reach compute, each by its code, against pure functions. Conditions: those that each theorem states. -/
import Derived.Test.YtcecbcaencobgaaGreatQH3
import Derived.Test.YtcecbcaencobgaaGreatProg
import Derived.KernelRfl
section
set_option linter.unusedSimpArgs false
namespace Go.H
open Go
def cpT : Dep → T → Prop
  | none, t => t.solid = true
  | some _, t => t.flat = true
def cpL (d : Dep) : List T → Prop
  | [] => True
  | t :: ts => cpT d t ∧ cpL d ts
theorem cpL_iff {d : Dep} : ∀ {r : List T}, cpL d r ↔ ∀ t ∈ r, cpT d t
  | [] => by simp [cpL]
  | t :: ts => by simp [cpL, cpL_iff (r := ts)]
theorem cpRows_cons (d : Dep) (r : List T) (rs : List (List T)) : cpRows d (r :: rs) = (cpL d r ∧ cpRows d rs) := by
  rw [eq_iff_iff, cpL_iff]
  cases d <;> simp [cpRows, cpT]
theorem cpRows_nil (d : Dep) : cpRows d [] = True := by
  cases d <;> simp [cpRows]
attribute [go_sem] cpRows_cons cpRows_nil cpL cpT T.solid T.flat
theorem cpRowsN_map {α : Type} (f : α → List T) (h : ∀ x, ∀ t ∈ f x, t.solid = true) (xs : List α) : cpRows none (xs.map f) = True := by
  rw [eq_iff_iff]
  unfold cpRows
  simp only [List.mem_map, iff_true]
  rintro r ⟨x, _, rfl⟩ t ht
  exact h x t ht
theorem getD_map_ {α : Type} (f : α → List T) (xs : List α) (i : Nat) (d : α) : (xs.map f).getD i (f d) = f (xs.getD i d) := by
  simp only [List.getD_eq_getElem?_getD, List.getElem?_map]
  cases xs[i]? <;> rfl
theorem noShR_map {α : Type} (f : α → List T) (h : ∀ x, T.noShL (f x)) (xs : List α) : T.noShR (xs.map f) = True := by
  rw [eq_iff_iff, T.noShR_iff]
  simp only [List.mem_map, forall_exists_index, and_imp, forall_apply_eq_imp_iff₂, h, implies_true]
theorem roRows_map {α : Type} (f g : α → List T) (h : ∀ x, (f x).map T.ro = g x) (xs : List α) : roRows (xs.map f) = xs.map g := by
  simp only [roRows, List.map_map]
  exact List.map_congr_left fun x _ => h x
theorem cpRows_map {α : Type} (f : α → List T) (h : ∀ x, ∀ t ∈ f x, t.flat = true) (d : Dep) (xs : List α) : cpRows d (xs.map f) = True := by
  rw [eq_iff_iff]
  unfold cpRows
  cases d
  · simp only [List.mem_map, iff_true]
    rintro r ⟨x, _, rfl⟩ t ht
    exact T.flat_solid (h x t ht)
  · simp only [List.mem_map, iff_true]
    rintro r ⟨x, _, rfl⟩ t ht
    exact h x t ht
def eI_i64 (n : Int) : List T := [.int .i64 n]
def zI_i64 : Int := 0
def dI_i64 : List T := eI_i64 zI_i64
theorem getD_I_i64 (xs : List Int) (i : Nat) : (xs.map eI_i64).getD i dI_i64 = eI_i64 (xs.getD i zI_i64) := getD_map_ ..
theorem shrR_I_i64 (xs : List Int) : T.shrR (xs.map eI_i64) = xs.map eI_i64 := T.shrR_map _ _ (fun _ => rfl) xs
theorem noShR_I_i64 (xs : List Int) : T.noShR (xs.map eI_i64) = True := noShR_map _ (fun _ => by simp [eI_i64, T.noShL, T.noSh]) xs
theorem roRows_I_i64 (xs : List Int) : roRows (xs.map eI_i64) = xs.map eI_i64 := roRows_map _ _ (fun _ => rfl) xs
theorem cpRows_I_i64 (d : Dep) (xs : List Int) : cpRows d (xs.map eI_i64) = True := cpRows_map _ (fun _ => by simp [eI_i64, T.flat]) d xs
attribute [go_sem] getD_I_i64 shrR_I_i64 noShR_I_i64 roRows_I_i64 cpRows_I_i64
theorem dropd_I_i64 : List.drop 1 dI_i64 = [] := rfl
theorem tm_I_i64 : tm dI_i64 = [.int .i64 0] := rfl
attribute [go_sem] dropd_I_i64 tm_I_i64
structure Backend where
  name : Int
  address : Int
  weight : Int
  stage : Int
  up : Bool
def eBackend (x : Backend) : List T := [.int .i64 x.name, .int .i64 x.address, .int .i64 x.weight, .int .i64 x.stage, .bool x.up]
def zBackend : Backend := ⟨0, 0, 0, 0, false⟩
def dBackend : List T := eBackend zBackend
theorem getD_Backend (xs : List Backend) (i : Nat) : (xs.map eBackend).getD i dBackend = eBackend (xs.getD i zBackend) := getD_map_ ..
theorem shrR_Backend (xs : List Backend) : T.shrR (xs.map eBackend) = xs.map eBackend := T.shrR_map _ _ (fun _ => rfl) xs
theorem noShR_Backend (xs : List Backend) : T.noShR (xs.map eBackend) = True := noShR_map _ (fun _ => by simp [eBackend, T.noShL, T.noSh]) xs
theorem roRows_Backend (xs : List Backend) : roRows (xs.map eBackend) = xs.map eBackend := roRows_map _ _ (fun _ => rfl) xs
theorem cpRows_Backend (d : Dep) (xs : List Backend) : cpRows d (xs.map eBackend) = True := cpRows_map _ (fun _ => by simp [eBackend, T.flat]) d xs
attribute [go_sem] getD_Backend shrR_Backend noShR_Backend roRows_Backend cpRows_Backend
theorem dropd_Backend : List.drop 5 dBackend = [] := rfl
theorem tm_Backend : tm dBackend = [.int .i64 0, .int .i64 0, .int .i64 0, .int .i64 0, .bool false] := rfl
attribute [go_sem] dropd_Backend tm_Backend
structure Vip where
  address : Int
  port : Int
  proto : Int
  names : List Int
def eVip (o : Bool) (x : Vip) : List T := [.int .i64 x.address, .int .i64 x.port, .int .i64 x.proto, .sl o 1 (x.names.map eI_i64)]
def zVip : Vip := ⟨0, 0, 0, []⟩
def dVip (o : Bool) : List T := eVip o zVip
theorem getD_Vip (o : Bool) (xs : List Vip) (i : Nat) : (xs.map (eVip o)).getD i (dVip o) = eVip o (xs.getD i zVip) := getD_map_ ..
theorem shrR_Vip (o : Bool) (xs : List Vip) : T.shrR (xs.map (eVip o)) = xs.map (eVip false) := T.shrR_map _ _ (fun x => by simp only [eVip, T.shrL, T.shr, shrR_I_i64]) xs
theorem noShR_Vip (xs : List Vip) : T.noShR (xs.map (eVip true)) = True := noShR_map _ (fun _ => by simp [eVip, T.noShL, T.noSh, noShR_I_i64]) xs
theorem cpRows_Vip (o : Bool) (xs : List Vip) : cpRows none (xs.map (eVip o)) = True := cpRowsN_map _ (fun _ => by simp [eVip, T.solid]) xs
attribute [go_sem] getD_Vip shrR_Vip noShR_Vip cpRows_Vip
theorem dropd_Vip (o : Bool) : List.drop 4 (dVip o) = [] := rfl
theorem tm_Vip : tm (dVip true) = [.int .i64 0, .int .i64 0, .int .i64 0, .sl true 1 []] := rfl
attribute [go_sem] dropd_Vip tm_Vip
def qVip (x : Vip) : Prop := x.names.length ≤ 9223372036854775807
structure Config where
  version : Int
  backends : List Backend
  vips : List Vip
def eConfig (o : Bool) (x : Config) : List T := [.int .i64 x.version, .sl o 5 (x.backends.map eBackend), .sl o 4 (x.vips.map (eVip o))]
def zConfig : Config := ⟨0, [], []⟩
def dConfig (o : Bool) : List T := eConfig o zConfig
theorem getD_Config (o : Bool) (xs : List Config) (i : Nat) : (xs.map (eConfig o)).getD i (dConfig o) = eConfig o (xs.getD i zConfig) := getD_map_ ..
theorem shrR_Config (o : Bool) (xs : List Config) : T.shrR (xs.map (eConfig o)) = xs.map (eConfig false) := T.shrR_map _ _ (fun x => by simp only [eConfig, T.shrL, T.shr, shrR_Backend, shrR_Vip]) xs
theorem noShR_Config (xs : List Config) : T.noShR (xs.map (eConfig true)) = True := noShR_map _ (fun _ => by simp [eConfig, T.noShL, T.noSh, noShR_Backend, noShR_Vip]) xs
theorem cpRows_Config (o : Bool) (xs : List Config) : cpRows none (xs.map (eConfig o)) = True := cpRowsN_map _ (fun _ => by simp [eConfig, T.solid]) xs
attribute [go_sem] getD_Config shrR_Config noShR_Config cpRows_Config
theorem dropd_Config (o : Bool) : List.drop 3 (dConfig o) = [] := rfl
theorem tm_Config : tm (dConfig true) = [.int .i64 0, .sl true 5 [], .sl true 4 []] := rfl
attribute [go_sem] dropd_Config tm_Config
def qConfig (x : Config) : Prop := x.backends.length ≤ 9223372036854775807 ∧ (x.vips.length ≤ 9223372036854775807 ∧ ∀ y ∈ x.vips, qVip y)
structure ConfigResult where
  code : Int
  config : Config
def eConfigResult (o : Bool) (x : ConfigResult) : List T := [.int .i64 x.code, .int .i64 x.config.version, .sl o 5 (x.config.backends.map eBackend), .sl o 4 (x.config.vips.map (eVip o))]
def zConfigResult : ConfigResult := ⟨0, zConfig⟩
def dConfigResult (o : Bool) : List T := eConfigResult o zConfigResult
theorem getD_ConfigResult (o : Bool) (xs : List ConfigResult) (i : Nat) : (xs.map (eConfigResult o)).getD i (dConfigResult o) = eConfigResult o (xs.getD i zConfigResult) := getD_map_ ..
theorem shrR_ConfigResult (o : Bool) (xs : List ConfigResult) : T.shrR (xs.map (eConfigResult o)) = xs.map (eConfigResult false) := T.shrR_map _ _ (fun x => by simp only [eConfigResult, T.shrL, T.shr, shrR_Backend, shrR_Vip]) xs
theorem noShR_ConfigResult (xs : List ConfigResult) : T.noShR (xs.map (eConfigResult true)) = True := noShR_map _ (fun _ => by simp [eConfigResult, T.noShL, T.noSh, noShR_Backend, noShR_Vip]) xs
theorem cpRows_ConfigResult (o : Bool) (xs : List ConfigResult) : cpRows none (xs.map (eConfigResult o)) = True := cpRowsN_map _ (fun _ => by simp [eConfigResult, T.solid]) xs
attribute [go_sem] getD_ConfigResult shrR_ConfigResult noShR_ConfigResult cpRows_ConfigResult
theorem dropd_ConfigResult (o : Bool) : List.drop 4 (dConfigResult o) = [] := rfl
theorem tm_ConfigResult : tm (dConfigResult true) = [.int .i64 0, .int .i64 0, .sl true 5 [], .sl true 4 []] := rfl
attribute [go_sem] dropd_ConfigResult tm_ConfigResult
def qConfigResult (x : ConfigResult) : Prop := qConfig x.config
structure Cmd where
  kind : Int
  expect : Int
  name : Int
  addr : Int
  number : Int
  proto : Int
def eCmd (x : Cmd) : List T := [.int .i64 x.kind, .int .i64 x.expect, .int .i64 x.name, .int .i64 x.addr, .int .i64 x.number, .int .i64 x.proto]
def zCmd : Cmd := ⟨0, 0, 0, 0, 0, 0⟩
def dCmd : List T := eCmd zCmd
theorem getD_Cmd (xs : List Cmd) (i : Nat) : (xs.map eCmd).getD i dCmd = eCmd (xs.getD i zCmd) := getD_map_ ..
theorem shrR_Cmd (xs : List Cmd) : T.shrR (xs.map eCmd) = xs.map eCmd := T.shrR_map _ _ (fun _ => rfl) xs
theorem noShR_Cmd (xs : List Cmd) : T.noShR (xs.map eCmd) = True := noShR_map _ (fun _ => by simp [eCmd, T.noShL, T.noSh]) xs
theorem roRows_Cmd (xs : List Cmd) : roRows (xs.map eCmd) = xs.map eCmd := roRows_map _ _ (fun _ => rfl) xs
theorem cpRows_Cmd (d : Dep) (xs : List Cmd) : cpRows d (xs.map eCmd) = True := cpRows_map _ (fun _ => by simp [eCmd, T.flat]) d xs
attribute [go_sem] getD_Cmd shrR_Cmd noShR_Cmd roRows_Cmd cpRows_Cmd
theorem dropd_Cmd : List.drop 6 dCmd = [] := rfl
theorem tm_Cmd : tm dCmd = [.int .i64 0, .int .i64 0, .int .i64 0, .int .i64 0, .int .i64 0, .int .i64 0] := rfl
attribute [go_sem] dropd_Cmd tm_Cmd
structure Session where
  client : Int
  seq : Int
  code : Int
def eSession (x : Session) : List T := [.int .i64 x.client, .int .i64 x.seq, .int .i64 x.code]
def zSession : Session := ⟨0, 0, 0⟩
def dSession : List T := eSession zSession
theorem getD_Session (xs : List Session) (i : Nat) : (xs.map eSession).getD i dSession = eSession (xs.getD i zSession) := getD_map_ ..
theorem shrR_Session (xs : List Session) : T.shrR (xs.map eSession) = xs.map eSession := T.shrR_map _ _ (fun _ => rfl) xs
theorem noShR_Session (xs : List Session) : T.noShR (xs.map eSession) = True := noShR_map _ (fun _ => by simp [eSession, T.noShL, T.noSh]) xs
theorem roRows_Session (xs : List Session) : roRows (xs.map eSession) = xs.map eSession := roRows_map _ _ (fun _ => rfl) xs
theorem cpRows_Session (d : Dep) (xs : List Session) : cpRows d (xs.map eSession) = True := cpRows_map _ (fun _ => by simp [eSession, T.flat]) d xs
attribute [go_sem] getD_Session shrR_Session noShR_Session roRows_Session cpRows_Session
theorem dropd_Session : List.drop 3 dSession = [] := rfl
theorem tm_Session : tm dSession = [.int .i64 0, .int .i64 0, .int .i64 0] := rfl
attribute [go_sem] dropd_Session tm_Session
structure Machine where
  config : Config
  sessions : List Session
def eMachine (o : Bool) (x : Machine) : List T := [.int .i64 x.config.version, .sl o 5 (x.config.backends.map eBackend), .sl o 4 (x.config.vips.map (eVip o)), .sl o 3 (x.sessions.map eSession)]
def zMachine : Machine := ⟨zConfig, []⟩
def dMachine (o : Bool) : List T := eMachine o zMachine
theorem getD_Machine (o : Bool) (xs : List Machine) (i : Nat) : (xs.map (eMachine o)).getD i (dMachine o) = eMachine o (xs.getD i zMachine) := getD_map_ ..
theorem shrR_Machine (o : Bool) (xs : List Machine) : T.shrR (xs.map (eMachine o)) = xs.map (eMachine false) := T.shrR_map _ _ (fun x => by simp only [eMachine, T.shrL, T.shr, shrR_Backend, shrR_Session, shrR_Vip]) xs
theorem noShR_Machine (xs : List Machine) : T.noShR (xs.map (eMachine true)) = True := noShR_map _ (fun _ => by simp [eMachine, T.noShL, T.noSh, noShR_Backend, noShR_Session, noShR_Vip]) xs
theorem cpRows_Machine (o : Bool) (xs : List Machine) : cpRows none (xs.map (eMachine o)) = True := cpRowsN_map _ (fun _ => by simp [eMachine, T.solid]) xs
attribute [go_sem] getD_Machine shrR_Machine noShR_Machine cpRows_Machine
theorem dropd_Machine (o : Bool) : List.drop 4 (dMachine o) = [] := rfl
theorem tm_Machine : tm (dMachine true) = [.int .i64 0, .sl true 5 [], .sl true 4 [], .sl true 3 []] := rfl
attribute [go_sem] dropd_Machine tm_Machine
def qMachine (x : Machine) : Prop := qConfig x.config ∧ x.sessions.length ≤ 9223372036854775807
structure MachineResult where
  code : Int
  reply : Int
  fresh : Bool
  machine : Machine
def eMachineResult (o : Bool) (x : MachineResult) : List T := [.int .i64 x.code, .int .i64 x.reply, .bool x.fresh, .int .i64 x.machine.config.version, .sl o 5 (x.machine.config.backends.map eBackend), .sl o 4 (x.machine.config.vips.map (eVip o)), .sl o 3 (x.machine.sessions.map eSession)]
def zMachineResult : MachineResult := ⟨0, 0, false, zMachine⟩
def dMachineResult (o : Bool) : List T := eMachineResult o zMachineResult
theorem getD_MachineResult (o : Bool) (xs : List MachineResult) (i : Nat) : (xs.map (eMachineResult o)).getD i (dMachineResult o) = eMachineResult o (xs.getD i zMachineResult) := getD_map_ ..
theorem shrR_MachineResult (o : Bool) (xs : List MachineResult) : T.shrR (xs.map (eMachineResult o)) = xs.map (eMachineResult false) := T.shrR_map _ _ (fun x => by simp only [eMachineResult, T.shrL, T.shr, shrR_Backend, shrR_Session, shrR_Vip]) xs
theorem noShR_MachineResult (xs : List MachineResult) : T.noShR (xs.map (eMachineResult true)) = True := noShR_map _ (fun _ => by simp [eMachineResult, T.noShL, T.noSh, noShR_Backend, noShR_Session, noShR_Vip]) xs
theorem cpRows_MachineResult (o : Bool) (xs : List MachineResult) : cpRows none (xs.map (eMachineResult o)) = True := cpRowsN_map _ (fun _ => by simp [eMachineResult, T.solid]) xs
attribute [go_sem] getD_MachineResult shrR_MachineResult noShR_MachineResult cpRows_MachineResult
theorem dropd_MachineResult (o : Bool) : List.drop 7 (dMachineResult o) = [] := rfl
theorem tm_MachineResult : tm (dMachineResult true) = [.int .i64 0, .int .i64 0, .bool false, .int .i64 0, .sl true 5 [], .sl true 4 [], .sl true 3 []] := rfl
attribute [go_sem] dropd_MachineResult tm_MachineResult
def qMachineResult (x : MachineResult) : Prop := qMachine x.machine
structure Entry where
  term : Int
  client : Int
  seq : Int
  cmd : Cmd
def eEntry (x : Entry) : List T := [.int .i64 x.term, .int .i64 x.client, .int .i64 x.seq, .int .i64 x.cmd.kind, .int .i64 x.cmd.expect, .int .i64 x.cmd.name, .int .i64 x.cmd.addr, .int .i64 x.cmd.number, .int .i64 x.cmd.proto]
def zEntry : Entry := ⟨0, 0, 0, zCmd⟩
def dEntry : List T := eEntry zEntry
theorem getD_Entry (xs : List Entry) (i : Nat) : (xs.map eEntry).getD i dEntry = eEntry (xs.getD i zEntry) := getD_map_ ..
theorem shrR_Entry (xs : List Entry) : T.shrR (xs.map eEntry) = xs.map eEntry := T.shrR_map _ _ (fun _ => rfl) xs
theorem noShR_Entry (xs : List Entry) : T.noShR (xs.map eEntry) = True := noShR_map _ (fun _ => by simp [eEntry, T.noShL, T.noSh]) xs
theorem roRows_Entry (xs : List Entry) : roRows (xs.map eEntry) = xs.map eEntry := roRows_map _ _ (fun _ => rfl) xs
theorem cpRows_Entry (d : Dep) (xs : List Entry) : cpRows d (xs.map eEntry) = True := cpRows_map _ (fun _ => by simp [eEntry, T.flat]) d xs
attribute [go_sem] getD_Entry shrR_Entry noShR_Entry roRows_Entry cpRows_Entry
theorem dropd_Entry : List.drop 9 dEntry = [] := rfl
theorem tm_Entry : tm dEntry = [.int .i64 0, .int .i64 0, .int .i64 0, .int .i64 0, .int .i64 0, .int .i64 0, .int .i64 0, .int .i64 0, .int .i64 0] := rfl
attribute [go_sem] dropd_Entry tm_Entry
structure ConfigsResult where
  code : Int
  configs : List Config
def eConfigsResult (o : Bool) (x : ConfigsResult) : List T := [.int .i64 x.code, .sl o 3 (x.configs.map (eConfig o))]
def zConfigsResult : ConfigsResult := ⟨0, []⟩
def dConfigsResult (o : Bool) : List T := eConfigsResult o zConfigsResult
theorem getD_ConfigsResult (o : Bool) (xs : List ConfigsResult) (i : Nat) : (xs.map (eConfigsResult o)).getD i (dConfigsResult o) = eConfigsResult o (xs.getD i zConfigsResult) := getD_map_ ..
theorem shrR_ConfigsResult (o : Bool) (xs : List ConfigsResult) : T.shrR (xs.map (eConfigsResult o)) = xs.map (eConfigsResult false) := T.shrR_map _ _ (fun x => by simp only [eConfigsResult, T.shrL, T.shr, shrR_Config]) xs
theorem noShR_ConfigsResult (xs : List ConfigsResult) : T.noShR (xs.map (eConfigsResult true)) = True := noShR_map _ (fun _ => by simp [eConfigsResult, T.noShL, T.noSh, noShR_Config]) xs
theorem cpRows_ConfigsResult (o : Bool) (xs : List ConfigsResult) : cpRows none (xs.map (eConfigsResult o)) = True := cpRowsN_map _ (fun _ => by simp [eConfigsResult, T.solid]) xs
attribute [go_sem] getD_ConfigsResult shrR_ConfigsResult noShR_ConfigsResult cpRows_ConfigsResult
theorem dropd_ConfigsResult (o : Bool) : List.drop 2 (dConfigsResult o) = [] := rfl
theorem tm_ConfigsResult : tm (dConfigsResult true) = [.int .i64 0, .sl true 3 []] := rfl
attribute [go_sem] dropd_ConfigsResult tm_ConfigsResult
def qConfigsResult (x : ConfigsResult) : Prop := (x.configs.length ≤ 9223372036854775807 ∧ ∀ y ∈ x.configs, qConfig y)
structure Update where
  from_ : Int
  to_ : Int
  full : Bool
  config : Config
  cmds : List Cmd
def eUpdate (o : Bool) (x : Update) : List T := [.int .i64 x.from_, .int .i64 x.to_, .bool x.full, .int .i64 x.config.version, .sl o 5 (x.config.backends.map eBackend), .sl o 4 (x.config.vips.map (eVip o)), .sl o 6 (x.cmds.map eCmd)]
def zUpdate : Update := ⟨0, 0, false, zConfig, []⟩
def dUpdate (o : Bool) : List T := eUpdate o zUpdate
theorem getD_Update (o : Bool) (xs : List Update) (i : Nat) : (xs.map (eUpdate o)).getD i (dUpdate o) = eUpdate o (xs.getD i zUpdate) := getD_map_ ..
theorem shrR_Update (o : Bool) (xs : List Update) : T.shrR (xs.map (eUpdate o)) = xs.map (eUpdate false) := T.shrR_map _ _ (fun x => by simp only [eUpdate, T.shrL, T.shr, shrR_Backend, shrR_Cmd, shrR_Vip]) xs
theorem noShR_Update (xs : List Update) : T.noShR (xs.map (eUpdate true)) = True := noShR_map _ (fun _ => by simp [eUpdate, T.noShL, T.noSh, noShR_Backend, noShR_Cmd, noShR_Vip]) xs
theorem cpRows_Update (o : Bool) (xs : List Update) : cpRows none (xs.map (eUpdate o)) = True := cpRowsN_map _ (fun _ => by simp [eUpdate, T.solid]) xs
attribute [go_sem] getD_Update shrR_Update noShR_Update cpRows_Update
theorem dropd_Update (o : Bool) : List.drop 7 (dUpdate o) = [] := rfl
theorem tm_Update : tm (dUpdate true) = [.int .i64 0, .int .i64 0, .bool false, .int .i64 0, .sl true 5 [], .sl true 4 [], .sl true 6 []] := rfl
attribute [go_sem] dropd_Update tm_Update
def qUpdate (x : Update) : Prop := qConfig x.config ∧ x.cmds.length ≤ 9223372036854775807
structure UpdateResult where
  code : Int
  update : Update
def eUpdateResult (o : Bool) (x : UpdateResult) : List T := [.int .i64 x.code, .int .i64 x.update.from_, .int .i64 x.update.to_, .bool x.update.full, .int .i64 x.update.config.version, .sl o 5 (x.update.config.backends.map eBackend), .sl o 4 (x.update.config.vips.map (eVip o)), .sl o 6 (x.update.cmds.map eCmd)]
def zUpdateResult : UpdateResult := ⟨0, zUpdate⟩
def dUpdateResult (o : Bool) : List T := eUpdateResult o zUpdateResult
theorem getD_UpdateResult (o : Bool) (xs : List UpdateResult) (i : Nat) : (xs.map (eUpdateResult o)).getD i (dUpdateResult o) = eUpdateResult o (xs.getD i zUpdateResult) := getD_map_ ..
theorem shrR_UpdateResult (o : Bool) (xs : List UpdateResult) : T.shrR (xs.map (eUpdateResult o)) = xs.map (eUpdateResult false) := T.shrR_map _ _ (fun x => by simp only [eUpdateResult, T.shrL, T.shr, shrR_Backend, shrR_Cmd, shrR_Vip]) xs
theorem noShR_UpdateResult (xs : List UpdateResult) : T.noShR (xs.map (eUpdateResult true)) = True := noShR_map _ (fun _ => by simp [eUpdateResult, T.noShL, T.noSh, noShR_Backend, noShR_Cmd, noShR_Vip]) xs
theorem cpRows_UpdateResult (o : Bool) (xs : List UpdateResult) : cpRows none (xs.map (eUpdateResult o)) = True := cpRowsN_map _ (fun _ => by simp [eUpdateResult, T.solid]) xs
attribute [go_sem] getD_UpdateResult shrR_UpdateResult noShR_UpdateResult cpRows_UpdateResult
theorem dropd_UpdateResult (o : Bool) : List.drop 8 (dUpdateResult o) = [] := rfl
theorem tm_UpdateResult : tm (dUpdateResult true) = [.int .i64 0, .int .i64 0, .int .i64 0, .bool false, .int .i64 0, .sl true 5 [], .sl true 4 [], .sl true 6 []] := rfl
attribute [go_sem] dropd_UpdateResult tm_UpdateResult
def qUpdateResult (x : UpdateResult) : Prop := qUpdate x.update
structure Watch where
  ready : Bool
  config : Config
def eWatch (o : Bool) (x : Watch) : List T := [.bool x.ready, .int .i64 x.config.version, .sl o 5 (x.config.backends.map eBackend), .sl o 4 (x.config.vips.map (eVip o))]
def zWatch : Watch := ⟨false, zConfig⟩
def dWatch (o : Bool) : List T := eWatch o zWatch
theorem getD_Watch (o : Bool) (xs : List Watch) (i : Nat) : (xs.map (eWatch o)).getD i (dWatch o) = eWatch o (xs.getD i zWatch) := getD_map_ ..
theorem shrR_Watch (o : Bool) (xs : List Watch) : T.shrR (xs.map (eWatch o)) = xs.map (eWatch false) := T.shrR_map _ _ (fun x => by simp only [eWatch, T.shrL, T.shr, shrR_Backend, shrR_Vip]) xs
theorem noShR_Watch (xs : List Watch) : T.noShR (xs.map (eWatch true)) = True := noShR_map _ (fun _ => by simp [eWatch, T.noShL, T.noSh, noShR_Backend, noShR_Vip]) xs
theorem cpRows_Watch (o : Bool) (xs : List Watch) : cpRows none (xs.map (eWatch o)) = True := cpRowsN_map _ (fun _ => by simp [eWatch, T.solid]) xs
attribute [go_sem] getD_Watch shrR_Watch noShR_Watch cpRows_Watch
theorem dropd_Watch (o : Bool) : List.drop 4 (dWatch o) = [] := rfl
theorem tm_Watch : tm (dWatch true) = [.bool false, .int .i64 0, .sl true 5 [], .sl true 4 []] := rfl
attribute [go_sem] dropd_Watch tm_Watch
def qWatch (x : Watch) : Prop := qConfig x.config
structure WatchResult where
  code : Int
  watch : Watch
def eWatchResult (o : Bool) (x : WatchResult) : List T := [.int .i64 x.code, .bool x.watch.ready, .int .i64 x.watch.config.version, .sl o 5 (x.watch.config.backends.map eBackend), .sl o 4 (x.watch.config.vips.map (eVip o))]
def zWatchResult : WatchResult := ⟨0, zWatch⟩
def dWatchResult (o : Bool) : List T := eWatchResult o zWatchResult
theorem getD_WatchResult (o : Bool) (xs : List WatchResult) (i : Nat) : (xs.map (eWatchResult o)).getD i (dWatchResult o) = eWatchResult o (xs.getD i zWatchResult) := getD_map_ ..
theorem shrR_WatchResult (o : Bool) (xs : List WatchResult) : T.shrR (xs.map (eWatchResult o)) = xs.map (eWatchResult false) := T.shrR_map _ _ (fun x => by simp only [eWatchResult, T.shrL, T.shr, shrR_Backend, shrR_Vip]) xs
theorem noShR_WatchResult (xs : List WatchResult) : T.noShR (xs.map (eWatchResult true)) = True := noShR_map _ (fun _ => by simp [eWatchResult, T.noShL, T.noSh, noShR_Backend, noShR_Vip]) xs
theorem cpRows_WatchResult (o : Bool) (xs : List WatchResult) : cpRows none (xs.map (eWatchResult o)) = True := cpRowsN_map _ (fun _ => by simp [eWatchResult, T.solid]) xs
attribute [go_sem] getD_WatchResult shrR_WatchResult noShR_WatchResult cpRows_WatchResult
theorem dropd_WatchResult (o : Bool) : List.drop 5 (dWatchResult o) = [] := rfl
theorem tm_WatchResult : tm (dWatchResult true) = [.int .i64 0, .bool false, .int .i64 0, .sl true 5 [], .sl true 4 []] := rfl
attribute [go_sem] dropd_WatchResult tm_WatchResult
def qWatchResult (x : WatchResult) : Prop := qWatch x.watch
attribute [go_sem] eI_i64 eConfig eBackend eVip eConfigResult eCmd eMachine eSession eMachineResult eEntry eConfigsResult eUpdate eUpdateResult eWatch eWatchResult
end Go.H
end
section
set_option linter.unusedVariables false
namespace Go.H
open Go
attribute [go_sem] V.scalar TV.noSh T.noSh T.noShL Ob.noSh V.zT liveV liveL verM capM TV.noShs Ob.noShs T.shr T.shrL roCs roC T.isOwn liveD List.take_length List.drop_zero List.take_zero List.map_nil
attribute [go_sem] decide_false Bool.or_false Bool.true_or Bool.or_true Bool.false_or Bool.and_false Int.natCast_add Int.natCast_one Int.cast_ofNat_Int Nat.add_zero
attribute [go_sem] List.length_map Int.toNat_natCast List.length_append List.length_take List.length_drop List.take_take Nat.min_self List.length_cons List.length_nil List.length_set List.length_replicate
theorem take_map' {α β : Type} (f : α → β) (l : List α) (i : Nat) : (l.map f).take i = (l.take i).map f := List.map_take.symm
theorem drop_map' {α β : Type} (f : α → β) (l : List α) (i : Nat) : (l.map f).drop i = (l.drop i).map f := List.map_drop.symm
theorem app_map' {α β : Type} (f : α → β) (l m : List α) : l.map f ++ m.map f = (l ++ m).map f := List.map_append.symm
attribute [go_sem] take_map' drop_map' app_map'
attribute [go_sem] reduceCtorEq Nat.reduceMod Nat.reduceEqDiff Nat.reduceAdd Nat.reduceMul Nat.reduceLeDiff Nat.reduceLT
theorem take_succ_map {α β : Type} (f : α → β) (d : α) {xs : List α} {i : Nat} (h : i < xs.length) : (xs.take (i + 1)).map f = (xs.take i).map f ++ [f (xs.getD i d)] := by
  rw [List.take_add_one, List.map_append, List.getD_eq_getElem?_getD, List.getElem?_eq_getElem h]
  rfl
def inR (a b c : Int) : Bool := decide (b ≤ a) && decide (a ≤ c)
attribute [go_sem] eqVL eqV
attribute [go_sem] T.noShR T.shrL T.shrR roCs roC cVcL Bool.cond_true_left Bool.cond_false_left Bool.cond_true_right Bool.not_eq_true' beq_false obM lkey obOk bne_self_eq_false beq_self_eq_true Bool.not_false ne_eq not_true_eq_false not_false_eq_true eq_self decide_not Bool.not_true
def aS (l : List T) : Arg := .agg (l.map C.t)
def aT (t : T) : Arg := .one (.t t)
def aI (n : Int) : Arg := .one (.t (.int .i64 n))
def rI (n : Int) : TV := .one (.int .i64 n)
def rB (b : Bool) : TV := .one (.bool b)
attribute [go_sem] aS aT aI rI rB okI
theorem drop_getD {α : Type} (d : α) {xs : List α} {i : Nat} (h : i < xs.length) : xs.drop i = xs.getD i d :: xs.drop (i + 1) := by
  rw [List.drop_eq_getElem_cons h, List.getD_eq_getElem?_getD, List.getElem?_eq_getElem h]
  rfl
theorem getD_set_self {α : Type} {l : List α} {i : Nat} (h : i < l.length) (r d : α) : (l.set i r).getD i d = r := by
  rw [List.getD_eq_getElem?_getD, List.getElem?_set_self h]
  rfl
theorem all_getD {α : Type} (d : α) {xs : List α} {p : α → Prop} : (∀ i < xs.length, p (xs.getD i d)) ↔ ∀ x ∈ xs, p x := by
  constructor
  · intro h x hx
    obtain ⟨i, hi, rfl⟩ := List.getElem_of_mem hx
    have := h i hi
    rwa [List.getD_eq_getElem?_getD, List.getElem?_eq_getElem hi] at this
  · intro h i hi
    rw [List.getD_eq_getElem?_getD, List.getElem?_eq_getElem hi]
    exact h _ (List.getElem_mem hi)
theorem getD_bld {α : Type} {l : List α} {n i : Nat} {d : α} (h : l.length = i) : (l ++ List.replicate n d).getD i d = d := by
  rw [List.getD_eq_getElem?_getD, List.getElem?_append_right (by omega)]
  cases h2 : (List.replicate n d)[i - l.length]? with
  | none => rfl
  | some x => exact List.eq_of_mem_replicate (List.mem_of_getElem? h2)
theorem bld_step {α : Type} (f : α → List T) (z : α) (d : List T) {xs : List α} {i : Nat} (h : i < xs.length) : ((xs.take i).map f ++ List.replicate (xs.length - i) d).set i (f (xs.getD i z)) = (xs.take (i + 1)).map f ++ List.replicate (xs.length - (i + 1)) d := by
  rw [take_succ_map f z h]
  have e : xs.length - i = (xs.length - (i + 1)) + 1 := by omega
  have hl : ((xs.take i).map f).length = i := by simp; omega
  rw [e, List.replicate_succ, List.set_append_right _ _ (by omega), hl, Nat.sub_self, List.set_cons_zero, List.append_assoc]
  rfl
attribute [go_sem] Nat.sub_self
def mkL {α : Type} (m : α → Int → α) (s : α → Int → Int) : List α → Int → List α
  | [], _ => []
  | x :: xs, k => m x k :: mkL m s xs (s x k)
def mkK {α : Type} (s : α → Int → Int) : List α → Int → Int
  | [], k => k
  | x :: xs, k => mkK s xs (s x k)
theorem mkL_length {α : Type} (m : α → Int → α) (s : α → Int → Int) : ∀ (xs : List α) (k : Int), (mkL m s xs k).length = xs.length
  | [], _ => rfl
  | x :: xs, k => by simp [mkL, mkL_length m s xs]
theorem mkL_snoc {α : Type} (m : α → Int → α) (s : α → Int → Int) (y : α) : ∀ (xs : List α) (k : Int), mkL m s (xs ++ [y]) k = mkL m s xs k ++ [m y (mkK s xs k)]
  | [], _ => rfl
  | x :: xs, k => by simp [mkL, mkK, mkL_snoc m s y xs]
theorem mkK_snoc {α : Type} (s : α → Int → Int) (y : α) : ∀ (xs : List α) (k : Int), mkK s (xs ++ [y]) k = s y (mkK s xs k)
  | [], _ => rfl
  | x :: xs, k => by simp [mkK, mkK_snoc s y xs]
theorem take_snoc {α : Type} (z : α) {xs : List α} {i : Nat} (h : i < xs.length) : xs.take (i + 1) = xs.take i ++ [xs.getD i z] := by
  rw [List.take_add_one, List.getD_eq_getElem?_getD, List.getElem?_eq_getElem h]
  rfl
theorem mkK_succ {α : Type} (s : α → Int → Int) (z : α) {xs : List α} {i : Nat} (h : i < xs.length) (k : Int) : mkK s (xs.take (i + 1)) k = s (xs.getD i z) (mkK s (xs.take i) k) := by
  rw [take_snoc z h, mkK_snoc]
theorem mk_step {α : Type} (f : α → List T) (m : α → Int → α) (s : α → Int → Int) (z : α) {xs : List α} {i : Nat} (h : i < xs.length) (k : Int) :
    ((mkL m s (xs.take i) k ++ xs.drop i).map f).set i (f (m (xs.getD i z) (mkK s (xs.take i) k))) = (mkL m s (xs.take (i + 1)) k ++ xs.drop (i + 1)).map f := by
  rw [take_snoc z h, mkL_snoc, drop_getD z h]
  have hl : (mkL m s (xs.take i) k).length = i := by rw [mkL_length]; simp; omega
  have e : ∀ y r, ((mkL m s (xs.take i) k ++ y :: r).map f).set i (f (m (xs.getD i z) (mkK s (xs.take i) k))) = (mkL m s (xs.take i) k ++ (m (xs.getD i z) (mkK s (xs.take i) k)) :: r).map f := by
    intro y r
    rw [List.map_append, List.set_append_right _ _ (by rw [List.length_map]; omega), List.length_map, hl, Nat.sub_self, List.map_cons, List.set_cons_zero, List.map_append, List.map_cons]
  rw [e, List.append_assoc]
  rfl
theorem mkL_getD {α : Type} (m : α → Int → α) (s : α → Int → Int) (z : α) : ∀ {xs : List α} {i : Nat} (k : Int), i < xs.length → (mkL m s xs k).getD i z = m (xs.getD i z) (mkK s (xs.take i) k)
  | [], i, k, h => by simp at h
  | x :: xs, 0, k, h => rfl
  | x :: xs, i + 1, k, h => by
    have := mkL_getD m s z (xs := xs) (i := i) (s x k) (by simpa using h)
    simpa only [mkL, List.getD_cons_succ, List.take_succ_cons, mkK] using this
theorem mk_getD {α : Type} (m : α → Int → α) (s : α → Int → Int) (z : α) {xs : List α} {i : Nat} (k : Int) (h : i < xs.length) : (mkL m s (xs.take i) k ++ xs.drop i).getD i z = xs.getD i z := by
  have hl : (mkL m s (xs.take i) k).length = i := by rw [mkL_length]; simp; omega
  rw [List.getD_eq_getElem?_getD, List.getElem?_append_right (by omega), hl, Nat.sub_self, drop_getD z h]
  rfl
theorem mkK_mono {α : Type} {s : α → Int → Int} (hs : ∀ x k, k ≤ s x k) : ∀ (xs : List α) (k : Int), k ≤ mkK s xs k
  | [], k => Int.le_refl k
  | x :: xs, k => Int.le_trans (hs x k) (mkK_mono hs xs _)
theorem mkK_app {α : Type} {s : α → Int → Int} : ∀ (xs ys : List α) (k : Int), mkK s (xs ++ ys) k = mkK s ys (mkK s xs k)
  | [], _, _ => rfl
  | x :: xs, ys, k => by simp [mkK, mkK_app xs ys]
theorem mkK_take {α : Type} {s : α → Int → Int} (hs : ∀ x k, k ≤ s x k) (xs : List α) (i : Nat) (k : Int) : mkK s (xs.take i) k ≤ mkK s xs k := by
  conv => rhs; rw [← List.take_append_drop i xs, mkK_app]
  exact mkK_mono hs _ _
theorem mkK_at {α : Type} {s : α → Int → Int} (hs : ∀ x k, k ≤ s x k) (z : α) {xs : List α} {i : Nat} (h : i < xs.length) {k b : Int} (hb : mkK s xs k ≤ b) : k ≤ mkK s (xs.take i) k ∧ s (xs.getD i z) (mkK s (xs.take i) k) ≤ b := by
  rw [← mkK_succ s z h]
  exact ⟨mkK_mono hs _ _, Int.le_trans (mkK_take hs _ _ _) hb⟩
theorem mkK_bd {α : Type} {s : α → Int → Int} {c : Int} (hc : 0 ≤ c) : ∀ {xs : List α} {k : Int}, (∀ x ∈ xs, ∀ k, s x k ≤ k + c) → mkK s xs k ≤ k + c * xs.length
  | [], k, h => by simp [mkK]
  | x :: xs, k, h => by
    have h1 := h x (by simp) k
    have h2 := mkK_bd hc (xs := xs) (k := s x k) fun y hy => h y (by simp [hy])
    simp only [mkK, List.length_cons]
    rw [show c * ((xs.length + 1 : Nat) : Int) = c * xs.length + c by rw [Int.natCast_add, Int.mul_add]; simp]
    omega
theorem arr_eq {sz v v' : Nat} {c : Option Nat} {r r' : List (List T)} (h1 : r = r') (h2 : v = v') : some (Mem.arr ⟨sz, r, v, c⟩) = some (Mem.arr ⟨sz, r', v', c⟩) := by rw [h1, h2]
theorem int_eq {k : IntKind} {a b : Int} (h : a = b) : some (V.int k a) = some (V.int k b) := by rw [h]
theorem getD_mem {α : Type} (z : α) {xs : List α} {i : Nat} (h : i < xs.length) : xs.getD i z ∈ xs := by
  rw [List.getD_eq_getElem?_getD, List.getElem?_eq_getElem h]
  exact List.getElem_mem h
theorem toNat_sub1 (n : Nat) : ((n : Int) - 1).toNat = n - 1 := by omega
theorem toNat_add1 (n : Nat) : ((n : Int) + 1).toNat = n + 1 := by omega
attribute [go_sem] toNat_sub1 toNat_add1 Int.add_sub_cancel
theorem take_snoc_map {α : Type} (f : α → List T) (xs : List α) (r : List T) : List.take (xs.length + 1) (xs.map f ++ [r]) = xs.map f ++ [r] := List.take_of_length_le (by simp)
theorem take_app_map {α : Type} (f : α → List T) (xs ys : List α) : List.take (xs.length + ys.length) ((xs ++ ys).map f) = (xs ++ ys).map f := List.take_of_length_le (by simp)
theorem take_set_map {α : Type} (f : α → List T) (xs : List α) (n : Nat) (r : List T) : List.take xs.length ((xs.map f).set n r) = (xs.map f).set n r := List.take_of_length_le (by simp)
theorem noShR_set : ∀ {l : List (List T)} {n : Nat} {r : List T}, T.noShR l → T.noShL r → T.noShR (l.set n r)
  | [], _, _, _, _ => by simp [T.noShR]
  | a :: l, 0, r, h, hr => by simp only [List.set_cons_zero, T.noShR] at h ⊢; exact ⟨hr, h.2⟩
  | a :: l, n + 1, r, h, hr => by simp only [List.set_cons_succ, T.noShR] at h ⊢; exact ⟨h.1, noShR_set h.2 hr⟩
theorem noShR_append : ∀ (l l2 : List (List T)), T.noShR (l ++ l2) = (T.noShR l ∧ T.noShR l2)
  | [], l2 => by simp [T.noShR]
  | a :: l, l2 => by simp only [List.cons_append, T.noShR, noShR_append l l2, and_assoc]
theorem getD_set_app {α : Type} {l : List α} {i : Nat} (h : i < l.length) (r : α) (l2 : List α) (d : α) : (l.set i r ++ l2).getD i d = r := by
  rw [List.getD_eq_getElem?_getD, List.getElem?_append_left (by simpa using h), List.getElem?_set_self h]
  rfl
theorem set_app {α : Type} {l : List α} {i : Nat} (h : i < l.length) (r r2 : α) (l2 : List α) : (l.set i r ++ l2).set i r2 = l.set i r2 ++ l2 := by
  rw [List.set_append_left _ _ (by simpa using h), List.set_set]
theorem set_getD_map {α : Type} (f : α → List T) (z : α) {xs : List α} {i : Nat} (h : i < xs.length) : (xs.map f).set i (f (xs.getD i z)) = xs.map f := by
  rw [List.getD_eq_getElem?_getD, List.getElem?_eq_getElem h]
  apply List.ext_getElem
  · simp
  · intro j h1 h2
    rw [List.getElem_set]
    split
    · rename_i e; subst e; simp
    · rfl
attribute [go_sem] take_snoc_map take_app_map take_set_map noShR_append
attribute [go_sem] T.own T.ownL
theorem take_set_len {α : Type} (l : List α) (n : Nat) (v : α) : List.take l.length (l.set n v) = l.set n v := List.take_of_length_le (by simp)
attribute [go_sem] take_set_len
theorem take_drop_take {α : Type} (l : List α) (a k : Nat) : List.take (a - k) (List.drop k (List.take a l)) = List.drop k (List.take a l) := List.take_of_length_le (by simp; omega)
attribute [go_sem] mnxI take_drop_take isZ bnd
theorem toNat0 : Int.toNat 0 = 0 := rfl
theorem toNat_subN (a b : Nat) : ((a : Int) - (b : Int)).toNat = a - b := by omega
theorem toNat_addN (a b : Nat) : ((a : Int) + (b : Int)).toNat = a + b := by omega
theorem toNat_subNN (a b c : Nat) : ((a : Int) - ((b : Int) + (c : Int))).toNat = a - (b + c) := by omega
theorem toNat_addNN (a b c : Nat) : ((a : Int) + (b : Int) + (c : Int)).toNat = a + b + c := by omega
attribute [go_sem] toNat0 toNat_subN toNat_addN toNat_subNN toNat_addNN Int.sub_zero Int.add_zero Int.zero_add
theorem junk_drop {α : Type} (J : List T) (f : α → List T) (xs : List α) (n : Nat) : List.drop (n + 1) (List.replicate n J ++ List.map f (List.drop n xs)) = List.map f (List.drop (n + 1) xs) := by
  rw [List.drop_append, List.drop_of_length_le (by simp), List.nil_append, List.length_replicate, ← List.map_drop, List.drop_drop]
  congr 2
  omega
theorem take_drop_len {α : Type} (xs : List α) (k : Nat) : List.take (xs.length - k) (List.drop k xs) = List.drop k xs := List.take_of_length_le (by simp)
attribute [go_sem] junk_drop take_drop_len
theorem toNat_sub1N (a b : Nat) : ((a : Int) - ((b : Int) + 1)).toNat = a - (b + 1) := by omega
attribute [go_sem] toNat_sub1N false_and and_false Int.one_mul
theorem wrap_small {n : Int} (h1 : -9223372036854775808 ≤ n) (h2 : n ≤ 9223372036854775807) : IntKind.wrap .i64 n = n := okI_wrap (k := .i64) ⟨h1, h2⟩
def idxG {α : Type} (q : α → Bool) : List α → Int
  | [] => -1
  | x :: xs => if q x = true then 0 else if idxG q xs < 0 then -1 else idxG q xs + 1
theorem idxG_none {α : Type} (z : α) {q : α → Bool} : ∀ {xs : List α}, (∀ j, j < xs.length → q (xs.getD j z) = false) → idxG q xs = -1
  | [], _ => rfl
  | x :: xs, h => by
    have h0 := h 0 (by simp)
    simp only [List.getD_cons_zero] at h0
    have ih := idxG_none z (q := q) (xs := xs) (fun j hj => by have := h (j + 1) (by simpa using hj); simpa only [List.getD_cons_succ] using this)
    rw [idxG, if_neg (by rw [h0]; simp), ih, if_pos (by omega)]
theorem idxG_some {α : Type} (z : α) {q : α → Bool} : ∀ {xs : List α} {i : Nat}, i < xs.length → (∀ j, j < i → q (xs.getD j z) = false) → q (xs.getD i z) = true → idxG q xs = i
  | [], _, h, _, _ => by simp at h
  | x :: xs, 0, _, _, hq => by
    simp only [List.getD_cons_zero] at hq
    rw [idxG, if_pos hq]
    rfl
  | x :: xs, i + 1, hi, h, hq => by
    have h0 := h 0 (by omega)
    simp only [List.getD_cons_zero] at h0
    have ih := idxG_some z (q := q) (xs := xs) (i := i) (by simpa using hi) (fun j hj => by have := h (j + 1) (by omega); simpa only [List.getD_cons_succ] using this) (by simpa only [List.getD_cons_succ] using hq)
    rw [idxG, if_neg (by rw [h0]; simp), ih, if_neg (by omega)]
    omega
theorem idxG_cases {α : Type} (z : α) (q : α → Bool) : ∀ (xs : List α), (idxG q xs = -1 ∧ ∀ j, j < xs.length → q (xs.getD j z) = false) ∨ ∃ i : Nat, idxG q xs = i ∧ i < xs.length ∧ q (xs.getD i z) = true ∧ ∀ j, j < i → q (xs.getD j z) = false
  | [] => .inl ⟨rfl, fun j h => by simp at h⟩
  | x :: xs => by
    cases hx : q x with
    | true => exact .inr ⟨0, by rw [idxG, if_pos hx]; rfl, by simp, by simpa using hx, fun j h => by omega⟩
    | false =>
      rcases idxG_cases z q xs with ⟨h1, h2⟩ | ⟨i, h1, h2, h3, h4⟩
      · refine .inl ⟨by rw [idxG, if_neg (by rw [hx]; simp), if_pos (by omega)], fun j hj => ?_⟩
        cases j with
        | zero => simpa using hx
        | succ j => simpa using h2 j (by simpa using hj)
      · refine .inr ⟨i + 1, by rw [idxG, if_neg (by rw [hx]; simp), if_neg (by omega)]; omega, by simpa using h2, by simpa using h3, fun j hj => ?_⟩
        cases j with
        | zero => simpa using hx
        | succ j => simpa using h4 j (by omega)
theorem idxG_lt {α : Type} (z : α) {q : α → Bool} {xs : List α} (h : ¬ idxG q xs < 0) : ∃ i : Nat, idxG q xs = i ∧ i < xs.length ∧ q (xs.getD i z) = true ∧ ∀ j, j < i → q (xs.getD j z) = false := by
  rcases idxG_cases z q xs with ⟨h1, _⟩ | h1
  · omega
  · exact h1
theorem idxG_neg {α : Type} (z : α) {q : α → Bool} {xs : List α} (h : idxG q xs < 0) : idxG q xs = -1 ∧ ∀ j, j < xs.length → q (xs.getD j z) = false := by
  rcases idxG_cases z q xs with h1 | ⟨i, h1, _⟩
  · exact h1
  · omega
theorem idxG_ge {α : Type} (q : α → Bool) : ∀ (xs : List α), -1 ≤ idxG q xs
  | [] => by simp [idxG]
  | x :: xs => by
    have := idxG_ge q xs
    rw [idxG]
    split
    · omega
    · split <;> omega
def hasG {α : Type} (q : α → Bool) (xs : List α) : Bool := decide (0 ≤ idxG q xs)
theorem hasG_false {α : Type} (z : α) {q : α → Bool} {xs : List α} (h : ∀ j, j < xs.length → q (xs.getD j z) = false) : hasG q xs = false := by
  simp [hasG, idxG_none z h]
theorem hasG_true {α : Type} (z : α) {q : α → Bool} {xs : List α} {i : Nat} (hi : i < xs.length) (h : q (xs.getD i z) = true) : hasG q xs = true := by
  rcases idxG_cases z q xs with ⟨_, h2⟩ | ⟨j, h1, _⟩
  · rw [h2 i hi] at h; cases h
  · simp [hasG, h1]
def preG {α : Type} (p : α → Bool) (xs : List α) : Nat := (xs.takeWhile p).length
theorem preG_le {α : Type} (p : α → Bool) (xs : List α) : preG p xs ≤ xs.length := (List.takeWhile_sublist _).length_le
theorem preG_eq {α : Type} (z : α) {p : α → Bool} : ∀ {xs : List α} {i : Nat}, i ≤ xs.length → (∀ q, q < i → p (xs.getD q z) = true) → (i < xs.length → p (xs.getD i z) = false) → preG p xs = i
  | [], i, h, _, _ => by simp at h; subst h; rfl
  | x :: xs, 0, h, _, h2 => by
    have := h2 (by simp)
    simp only [List.getD_cons_zero] at this
    unfold preG
    rw [List.takeWhile_cons_of_neg (by rw [this]; simp)]
    rfl
  | x :: xs, i + 1, h, h1, h2 => by
    have h0 := h1 0 (by omega)
    simp only [List.getD_cons_zero] at h0
    have ih := preG_eq z (p := p) (xs := xs) (i := i) (by simpa using h) (fun q hq => by simpa only [List.getD_cons_succ] using h1 (q + 1) (by omega)) (fun hi => by simpa only [List.getD_cons_succ] using h2 (by simpa using hi))
    unfold preG at ih ⊢
    rw [List.takeWhile_cons_of_pos h0, List.length_cons, ih]
theorem preG_lt {α : Type} (z : α) {p : α → Bool} : ∀ {xs : List α} {i : Nat}, i < preG p xs → p (xs.getD i z) = true
  | [], i, h => by simp [preG] at h
  | x :: xs, i, h => by
    unfold preG at h
    cases hx : p x with
    | false => rw [List.takeWhile_cons_of_neg (by rw [hx]; simp)] at h; simp at h
    | true =>
      rw [List.takeWhile_cons_of_pos hx] at h
      cases i with
      | zero => simpa using hx
      | succ i => simpa using preG_lt z (p := p) (xs := xs) (i := i) (by simpa [preG] using h)
theorem preG_at {α : Type} (z : α) {p : α → Bool} : ∀ {xs : List α}, preG p xs < xs.length → p (xs.getD (preG p xs) z) = false
  | [], h => by simp at h
  | x :: xs, h => by
    unfold preG at h ⊢
    cases hx : p x with
    | false => rw [List.takeWhile_cons_of_neg (by rw [hx]; simp)]; simpa using hx
    | true =>
      rw [List.takeWhile_cons_of_pos hx] at h ⊢
      simp only [List.length_cons, List.getD_cons_succ]
      exact preG_at z (p := p) (xs := xs) (by simpa [preG] using h)
def putG {α : Type} (p : α → Bool) (xs : List α) (b : α) : List α := xs.take (preG p xs) ++ [b] ++ xs.drop (preG p xs)
def cutG {α : Type} (xs : List α) (i : Nat) : List α := xs.take i ++ xs.drop (i + 1)
def lbn (xs : List Int) (v : Int) : Nat := (xs.takeWhile fun x => decide (x < v)).length
def rises (xs : List Int) : Prop := ∀ i, 0 < i → i < xs.length → xs.getD (i - 1) zI_i64 < xs.getD i zI_i64
def isNum (x : Cmd) : Bool := if x.kind = 1 ∨ x.kind = 2 then inR x.number 0 9 else if x.kind = 3 then inR x.number 1 3 else if x.kind = 9 then inR x.number 0 1 else inR x.number 0 65535
def isPro (n : Int) : Bool := decide (n = 6) || decide (n = 17)
def nd1 (k : Int) : Bool := !inR k 5 6
def nd2 (k : Int) : Bool := decide (k = 1) || inR k 5 8
def nd3 (k : Int) : Bool := !decide (k = 4)
def nd4 (k : Int) : Bool := inR k 5 8
def cmdFault (x : Cmd) : Int :=
  if !inR x.kind 1 9 then 1 else
  if !inR x.expect (-1) 1000000 || (nd1 x.kind && !inR x.name 1 999) || (nd2 x.kind && !inR x.addr 0 4294967295) || (nd3 x.kind && !isNum x) || (nd4 x.kind && !isPro x.proto) then 3 else
  if (!nd1 x.kind && decide (x.name ≠ 0)) || (!nd2 x.kind && decide (x.addr ≠ 0)) || (!nd3 x.kind && decide (x.number ≠ 0)) || (!nd4 x.kind && decide (x.proto ≠ 0)) then 1 else 0
theorem exp_eq (n : Int) : (!decide (n = -1) && !inR n 0 1000000) = !inR n (-1) 1000000 := by
  rw [Bool.eq_iff_iff]
  simp [inR]
  omega
def scanN (f : Nat → Int) : Nat → Nat → Int
  | 0, _ => 0
  | n + 1, i => if f i = 0 then scanN f n (i + 1) else f i
def scan (f : Nat → Int) (n i : Nat) : Int := scanN f (n - i) i
theorem scan_lt {f : Nat → Int} {n i : Nat} (h : i < n) : scan f n i = if f i = 0 then scan f n (i + 1) else f i := by
  unfold scan
  rw [show n - i = (n - (i + 1)) + 1 by omega]
  rfl
theorem scan_ge {f : Nat → Int} {n i : Nat} (h : n ≤ i) : scan f n i = 0 := by
  unfold scan
  rw [show n - i = 0 by omega]
  rfl
theorem scanN_zero {f : Nat → Int} : ∀ {n i : Nat}, scanN f n i = 0 ↔ ∀ j, j < n → f (i + j) = 0
  | 0, i => by simp [scanN]
  | n + 1, i => by
    simp only [scanN]
    constructor
    · intro h j hj
      split at h
      · rename_i h0
        rcases j with _ | j
        · exact h0
        · have := scanN_zero.1 h j (by omega)
          rw [show i + (j + 1) = i + 1 + j by omega]
          exact this
      · rename_i h0; exact absurd h h0
    · intro h
      have h0 := h 0 (by omega)
      rw [Nat.add_zero] at h0
      rw [if_pos h0]
      refine scanN_zero.2 fun j hj => ?_
      rw [show i + 1 + j = i + (j + 1) by omega]
      exact h (j + 1) (by omega)
theorem scan_zero {f : Nat → Int} {n i : Nat} : scan f n i = 0 ↔ ∀ j, i ≤ j → j < n → f j = 0 := by
  unfold scan
  rw [scanN_zero]
  constructor
  · intro h j h1 h2
    have := h (j - i) (by omega)
    rwa [show i + (j - i) = j by omega] at this
  · intro h j hj
    exact h (i + j) (by omega) (by omega)
def isBk (b : Backend) : Bool := inR b.name 1 999 && inR b.address 0 4294967295 && inR b.weight 0 9 && inR b.stage 1 3
def isVp (v : Vip) : Bool := inR v.address 0 4294967295 && inR v.port 0 65535 && isPro v.proto
def isB (n : Int) (b : Backend) : Bool := decide (b.name = n)
def findB (xs : List Backend) (n : Int) : Int := idxG (isB n) xs
def behV (a b : Vip) : Bool := if a.address ≠ b.address then decide (a.address < b.address) else if a.port ≠ b.port then decide (a.port < b.port) else decide (a.proto < b.proto)
def cmpI (a b : Int) : Int := if a < b then -1 else if b < a then 1 else 0
def cmpV (a b : Vip) : Int := if cmpI a.address b.address ≠ 0 then cmpI a.address b.address else if cmpI a.port b.port ≠ 0 then cmpI a.port b.port else cmpI a.proto b.proto
def cmpB (a b : Backend) : Int := cmpI a.name b.name
theorem cmpV_lt (a b : Vip) : decide (cmpV a b < 0) = behV a b := by
  unfold cmpV behV cmpI
  rw [Bool.eq_iff_iff]
  grind
theorem cmpV_ge (a b : Vip) : decide (0 ≤ cmpV a b) = !behV a b := by
  rw [← cmpV_lt, Bool.eq_iff_iff]
  simp
theorem cmpB_lt (a b : Backend) : cmpB a b < 0 ↔ a.name < b.name := by
  unfold cmpB cmpI
  grind
def bkBad (xs : List Backend) (i : Nat) : Int :=
  if isBk (xs.getD i zBackend) = false then 3 else if 0 < i ∧ (xs.getD i zBackend).name ≤ (xs.getD (i - 1) zBackend).name then 1 else 0
def noB (bs : List Backend) (n : Int) : Bool := decide (findB bs n < 0)
def nmBad (v : Vip) (i : Nat) : Int := if v.names.getD i zI_i64 ≤ v.names.getD (i - 1) zI_i64 then 1 else 0
def vipBad (c : Config) (i : Nat) : Int :=
  if isVp (c.vips.getD i zVip) = false then 3 else
  if 0 < i ∧ behV (c.vips.getD (i - 1) zVip) (c.vips.getD i zVip) = false then 1 else
  if hasG (noB c.backends) (c.vips.getD i zVip).names = true then 4 else scan (nmBad (c.vips.getD i zVip)) (c.vips.getD i zVip).names.length 1
def configFault (c : Config) : Int :=
  if inR c.version 0 1000000 = false then 3 else
  if 8 < c.backends.length ∨ 4 < c.vips.length then 2 else
  if scan (bkBad c.backends) c.backends.length 0 ≠ 0 then scan (bkBad c.backends) c.backends.length 0 else scan (vipBad c) c.vips.length 0
def isV (a p q : Int) (v : Vip) : Bool := decide (v.address = a) && decide (v.port = p) && decide (v.proto = q)
def findV (xs : List Vip) (a p q : Int) : Int := idxG (isV a p q) xs
theorem lbn_le (xs : List Int) (v : Int) : lbn xs v ≤ xs.length := List.takeWhile_sublist _ |>.length_le
theorem lbn_pre (xs : List Int) (v : Int) : lbn xs v = preG (fun x => decide (x < v)) xs := rfl
theorem lbn_eq {xs : List Int} {v : Int} {i : Nat} (h : i ≤ xs.length) (h1 : ∀ p, p < i → xs.getD p zI_i64 < v) (h2 : i < xs.length → v ≤ xs.getD i zI_i64) : lbn xs v = i :=
  preG_eq zI_i64 h (fun q hq => by simpa using h1 q hq) (fun hi => by have := h2 hi; simp only [decide_eq_false_iff_not]; omega)
def hasI (xs : List Int) (v : Int) : Bool := decide (lbn xs v < xs.length) && decide (xs.getD (lbn xs v) zI_i64 = v)
theorem rises_lt {xs : List Int} (h : rises xs) {i : Nat} : ∀ {j : Nat}, i < j → j < xs.length → xs.getD i zI_i64 < xs.getD j zI_i64
  | 0, h1, _ => by omega
  | j + 1, h1, h2 => by
    have e := h (j + 1) (by omega) h2
    simp only [Nat.add_sub_cancel] at e
    by_cases hij : i = j
    · subst hij; exact e
    · have := rises_lt h (i := i) (j := j) (by omega) (by omega)
      omega
def riseL (xs : List Int) (v : Int) : List Int := if hasI xs v then xs else xs.take (lbn xs v) ++ [v] ++ xs.drop (lbn xs v)
theorem half_nat (a b : Nat) (h : a + b < 9223372036854775808) : ((a : Int) + b).fdiv (2 ^ min (Int.toNat 1) 64) = (((a + b) / 2 : Nat) : Int) := by
  show ((a : Int) + b).fdiv (2 ^ 1) = _
  rw [← Int.natCast_add]
  rw [Int.fdiv_eq_ediv_of_nonneg _ (by omega)]
  omega
theorem wrap_u (n : Nat) (h : n < 18446744073709551616) : IntKind.u64.wrap (n : Int) = n := by
  show ((n : Int) % 18446744073709551616) = n
  omega
def eqI (v : Int) (x : Int) : Bool := decide (x = v)
theorem hasI_eq {xs : List Int} (hr : rises xs) (v : Int) : hasG (eqI v) xs = hasI xs v := by
  cases h : hasI xs v with
  | true =>
    simp only [hasI, Bool.and_eq_true, decide_eq_true_eq] at h
    exact hasG_true zI_i64 h.1 (by simpa [eqI] using h.2)
  | false =>
    refine hasG_false zI_i64 fun j hj => ?_
    simp only [eqI, decide_eq_false_iff_not]
    intro e
    have hl : lbn xs v = j := lbn_eq (by omega) (fun p hp => by have := rises_lt hr hp hj; omega) (fun _ => by omega)
    simp only [hasI, hl, hj, e, decide_true, Bool.and_self] at h
    cases h
def notI (v : Int) (x : Int) : Bool := !decide (x = v)
theorem filter_lt {xs : List Int} {v : Int} (h : ∀ x ∈ xs, x ≠ v) : xs.filter (notI v) = xs := by
  rw [List.filter_eq_self]
  intro x hx
  simpa [notI] using h x hx
theorem without_eq {xs : List Int} (hr : rises xs) {v : Int} (h : hasI xs v = true) : xs.filter (notI v) = cutG xs (lbn xs v) := by
  simp only [hasI, Bool.and_eq_true, decide_eq_true_eq] at h
  obtain ⟨h1, h2⟩ := h
  have e : xs = xs.take (lbn xs v) ++ v :: xs.drop (lbn xs v + 1) := by
    have := drop_getD zI_i64 h1
    rw [h2] at this
    rw [← this, List.take_append_drop]
  have k : ∀ j, j < xs.length → j ≠ lbn xs v → xs.getD j zI_i64 ≠ v := fun j hj hn he => by
    rcases Nat.lt_or_gt_of_ne hn with h3 | h3
    · have := rises_lt hr h3 h1; omega
    · have := rises_lt hr h3 hj; omega
  unfold cutG
  conv => lhs; rw [e]
  rw [List.filter_append, List.filter_cons]
  rw [filter_lt, filter_lt]
  · simp [notI]
  · intro x hx
    obtain ⟨j, hj, rfl⟩ := List.getElem_of_mem hx
    have hj2 : lbn xs v + 1 + j < xs.length := by simp at hj; omega
    have := k (lbn xs v + 1 + j) hj2 (by omega)
    rwa [List.getD_eq_getElem?_getD, List.getElem?_eq_getElem hj2, Option.getD_some, ← List.getElem_drop (h := hj)] at this
  · intro x hx
    obtain ⟨j, hj, rfl⟩ := List.getElem_of_mem hx
    have hj2 : j < lbn xs v := by simp at hj; omega
    have := k j (by omega) (by omega)
    rwa [List.getD_eq_getElem?_getD, List.getElem?_eq_getElem (by omega), Option.getD_some, ← List.getElem_take (h := hj)] at this
def bOf (x : Cmd) : Backend := ⟨x.name, x.addr, x.number, 1, true⟩
def vOf (x : Cmd) : Vip := ⟨x.addr, x.number, x.proto, []⟩
def ltB (n : Int) (b : Backend) : Bool := decide (b.name < n)
def ltV (v a : Vip) : Bool := behV a v
def serves (vs : List Vip) (n : Int) : Bool := hasG (fun v => hasG (eqI n) v.names) vs
def bAt (c : Config) (n : Int) : Nat := (findB c.backends n).toNat
def vAt (c : Config) (x : Cmd) : Nat := (findV c.vips x.addr x.number x.proto).toNat
def setB (c : Config) (i : Nat) (b : Backend) : Config := { c with backends := c.backends.set i b }
def setV (c : Config) (i : Nat) (v : Vip) : Config := { c with vips := c.vips.set i v }
def turnB (c : Config) (x : Cmd) : Int × Config :=
  if x.kind = 1 then
    if 0 ≤ findB c.backends x.name then (7, c) else
    if 8 ≤ c.backends.length then (2, c) else (0, { c with backends := putG (ltB x.name) c.backends (bOf x) })
  else if findB c.backends x.name < 0 then (4, c)
  else if x.kind = 2 then (0, setB c (bAt c x.name) { c.backends.getD (bAt c x.name) zBackend with weight := x.number })
  else if x.kind = 3 then (0, setB c (bAt c x.name) { c.backends.getD (bAt c x.name) zBackend with stage := x.number })
  else if x.kind = 9 then (0, setB c (bAt c x.name) { c.backends.getD (bAt c x.name) zBackend with up := decide (x.number = 1) })
  else if (c.backends.getD (bAt c x.name) zBackend).stage ≠ 3 then (10, c)
  else if serves c.vips x.name = true then (8, c)
  else (0, { c with backends := cutG c.backends (bAt c x.name) })
def turnV (c : Config) (x : Cmd) : Int × Config :=
  if x.kind = 5 then
    if 0 ≤ findV c.vips x.addr x.number x.proto then (7, c) else
    if 4 ≤ c.vips.length then (2, c) else (0, { c with vips := putG (ltV (vOf x)) c.vips (vOf x) })
  else if findV c.vips x.addr x.number x.proto < 0 then (4, c)
  else if x.kind = 6 then (0, { c with vips := cutG c.vips (vAt c x) })
  else if x.kind = 7 then
    if findB c.backends x.name < 0 then (4, c) else
    if hasI (c.vips.getD (vAt c x) zVip).names x.name = true then (7, c) else
    (0, setV c (vAt c x) { c.vips.getD (vAt c x) zVip with names := riseL (c.vips.getD (vAt c x) zVip).names x.name })
  else if hasI (c.vips.getD (vAt c x) zVip).names x.name = false then (4, c) else
    (0, setV c (vAt c x) { c.vips.getD (vAt c x) zVip with names := cutG (c.vips.getD (vAt c x) zVip).names (lbn (c.vips.getD (vAt c x) zVip).names x.name) })
def turned (c : Config) (x : Cmd) : Int × Config := if inR x.kind 5 8 = true then turnV c x else turnB c x
def badC (k : Int) : ConfigResult := ⟨k, zConfig⟩
def applyR (c : Config) (x : Cmd) : ConfigResult :=
  if c.version = 1000000 then badC 3 else
  if x.expect ≠ -1 ∧ x.expect ≠ c.version then badC 9 else
  if (turned c x).1 ≠ 0 then badC (turned c x).1 else ⟨0, { (turned c x).2 with version := c.version + 1 }⟩
def applyCmd (c : Config) (x : Cmd) : ConfigResult :=
  if configFault c ≠ 0 then badC (configFault c) else
  if cmdFault x ≠ 0 then badC (cmdFault x) else applyR c x
def szL (n : Nat) (l : Int) : Int := if l - n < 0 then -1 else l - n
def szT (l : Int) (k : Int → Int) : Int := if l < 0 then -1 else k l
def szVip (x : Vip) (l : Int) : Int := szT (szL x.names.length l) fun l => l
def szVips : List Vip → Int → Int
  | [], l => l
  | x :: xs, l => szT (szVip x l) (szVips xs)
def szVs (xs : List Vip) (l : Int) : Int := szT (szL xs.length l) (szVips xs)
def szConfig (x : Config) (l : Int) : Int := szT (szL x.backends.length l) fun l => szT (szVs x.vips l) fun l => l
theorem szL_lo (n : Nat) (l : Int) : -1 ≤ szL n l := by unfold szL; split <;> omega
theorem szL_hi {n : Nat} {l b : Int} (h : l ≤ b) (hb : -1 ≤ b) : szL n l ≤ b := by unfold szL; split <;> omega
theorem szL_ge {n : Nat} {l : Int} (h : 0 ≤ szL n l) : szL n l = l - n ∧ n ≤ l := by
  unfold szL at *
  split at h
  · omega
  · rename_i h2
    rw [if_neg h2]
    omega
theorem szT_lo {l : Int} {k : Int → Int} (h : 0 ≤ l → -1 ≤ k l) : -1 ≤ szT l k := by unfold szT; split <;> first | omega | exact h (by omega)
theorem szT_hi {l b : Int} {k : Int → Int} (hb : -1 ≤ b) (h : k l ≤ b) : szT l k ≤ b := by unfold szT; split <;> first | omega | exact h
theorem szT_ge {l : Int} {k : Int → Int} (h : 0 ≤ szT l k) : 0 ≤ l ∧ 0 ≤ k l ∧ szT l k = k l := by
  unfold szT at *
  split at h
  · omega
  · rename_i h2
    rw [if_neg h2]
    omega
theorem szVip_lo (x : Vip) (l : Int) (h : l ≤ 1048576) : -1 ≤ szVip x l ∧ szVip x l ≤ 1048576 :=
  ⟨szT_lo fun _ => szL_lo .., szT_hi (by omega) (szL_hi h (by omega))⟩
theorem szVips_lo : ∀ (xs : List Vip) (l : Int), -1 ≤ l → l ≤ 1048576 → -1 ≤ szVips xs l ∧ szVips xs l ≤ 1048576
  | [], l, h1, h2 => ⟨h1, h2⟩
  | x :: xs, l, h1, h2 => by
    have := szVip_lo x l h2
    have h3 := szVips_lo xs (szVip x l) this.1 this.2
    exact ⟨szT_lo fun _ => h3.1, szT_hi (by omega) h3.2⟩
theorem szVs_lo (xs : List Vip) (l : Int) (h : l ≤ 1048576) : -1 ≤ szVs xs l ∧ szVs xs l ≤ 1048576 := by
  have := szVips_lo xs _ (szL_lo xs.length l) (szL_hi h (by omega))
  exact ⟨szT_lo fun _ => this.1, szT_hi (by omega) this.2⟩
theorem szConfig_lo (x : Config) (l : Int) (h : l ≤ 1048576) : -1 ≤ szConfig x l ∧ szConfig x l ≤ 1048576 := by
  have := szVs_lo x.vips _ (szL_hi (n := x.backends.length) h (by omega))
  exact ⟨szT_lo fun _ => szT_lo fun _ => this.1, szT_hi (by omega) (szT_hi (by omega) this.2)⟩
def limV (b : Nat) (x : Vip) : Prop := x.names.length ≤ b
def limG (b : Nat) (x : Config) : Prop := x.backends.length ≤ b ∧ x.vips.length ≤ b ∧ ∀ y ∈ x.vips, limV b y
theorem szVip_lim {x : Vip} {l : Int} (h : 0 ≤ szVip x l) (hl : l ≤ 1048576) : limV 1048576 x ∧ szVip x l ≤ 1048576 := by
  unfold szVip at h
  obtain ⟨a1, a2, _⟩ := szT_ge h
  have e1 := szL_ge a1
  exact ⟨by unfold limV; omega, (szVip_lo x l hl).2⟩
theorem szVips_lim : ∀ {xs : List Vip} {l : Int}, 0 ≤ szVips xs l → l ≤ 1048576 → ∀ y ∈ xs, limV 1048576 y
  | [], _, _, _ => by simp
  | x :: xs, l, h, hl => by
    obtain ⟨a1, a2, _⟩ := szT_ge h
    obtain ⟨b1, b2⟩ := szVip_lim a1 hl
    intro y hy
    rcases List.mem_cons.1 hy with rfl | hy
    · exact b1
    · exact szVips_lim a2 b2 y hy
theorem szConfig_lim {x : Config} {l : Int} (h : 0 ≤ szConfig x l) (hl : l ≤ 1048576) : limG 1048576 x := by
  unfold szConfig at h
  obtain ⟨a1, a2, _⟩ := szT_ge h
  obtain ⟨b1, b2, _⟩ := szT_ge a2
  have e1 := szL_ge a1
  obtain ⟨f1, f2, _⟩ := szT_ge b1
  have q1 := szL_ge f1
  exact ⟨by omega, by omega, szVips_lim f2 (szL_hi (szL_hi hl (by omega)) (by omega))⟩
theorem limV_mono {a b : Nat} (h : a ≤ b) {x : Vip} (hx : limV a x) : limV b x := Nat.le_trans hx h
theorem limG_mono {a b : Nat} (h : a ≤ b) {x : Config} (hx : limG a x) : limG b x := ⟨Nat.le_trans hx.1 h, Nat.le_trans hx.2.1 h, fun y hy => limV_mono h (hx.2.2 y hy)⟩
def mI (_ : Int) (k : Int) : Int := k
def sI (_ : Int) (k : Int) : Int := k + 1
def mB (_ : Backend) (k : Int) : Backend := ⟨k, k + 1, k + 1 + 1, k + 1 + 1 + 1, decide ((k + 1 + 1 + 1 + 1).tmod 3 = 0)⟩
def sB (_ : Backend) (k : Int) : Int := k + 1 + 1 + 1 + 1 + 1
def mV (x : Vip) (k : Int) : Vip := ⟨k, k + 1, k + 1 + 1, mkL mI sI x.names (k + 1 + 1 + 1)⟩
def sV (x : Vip) (k : Int) : Int := mkK sI x.names (k + 1 + 1 + 1)
def mG (x : Config) (k : Int) : Config := ⟨x.version, mkL mB sB x.backends k, mkL mV sV x.vips (mkK sB x.backends k)⟩
def sG (x : Config) (k : Int) : Int := mkK sV x.vips (mkK sB x.backends k)
theorem sI_up (x : Int) (k : Int) : k ≤ sI x k := by unfold sI; omega
theorem sB_up (x : Backend) (k : Int) : k ≤ sB x k := by unfold sB; omega
theorem sV_up (x : Vip) (k : Int) : k ≤ sV x k := by
  have := mkK_mono sI_up x.names (k + 1 + 1 + 1)
  unfold sV; omega
theorem sG_up (x : Config) (k : Int) : k ≤ sG x k := by
  have h1 := mkK_mono sB_up x.backends k
  have h2 := mkK_mono sV_up x.vips (mkK sB x.backends k)
  unfold sG; omega
theorem mkI_bd (xs : List Int) (k : Int) : mkK sI xs k ≤ k + 1 * xs.length := mkK_bd (by omega) fun x _ k => by unfold sI; omega
theorem mkB_bd (xs : List Backend) (k : Int) : mkK sB xs k ≤ k + 5 * xs.length := mkK_bd (by omega) fun x _ k => by unfold sB; omega
theorem mkV_bd {xs : List Vip} {b : Nat} (h : ∀ x ∈ xs, limV b x) (k : Int) : mkK sV xs k ≤ k + (b + 3) * xs.length := mkK_bd (by omega) fun x hx k => by
  have h1 := mkI_bd x.names (k + 1 + 1 + 1)
  have h2 := h x hx
  unfold limV at h2
  unfold sV; omega
theorem sG_bd {x : Config} (hx : limG 2097152 x) {k : Int} (hk : k ≤ 4000000000000000000) : sG x k ≤ k + 4398100000000 := by
  have h1 := mkB_bd x.backends k
  have h2 := mkV_bd hx.2.2 (mkK sB x.backends k)
  have h3 := hx.1
  have h4 := hx.2.1
  unfold sG
  have h5 : (((2097152 : Nat) : Int) + 3) * x.vips.length ≤ (((2097152 : Nat) : Int) + 3) * 2097152 := Int.mul_le_mul_of_nonneg_left (by omega) (by omega)
  omega
structure CfOk (c : Config) : Prop where
  v0 : 0 ≤ c.version
  v1 : c.version ≤ 1000000
  b8 : c.backends.length ≤ 8
  v4 : c.vips.length ≤ 4
  bk : ∀ i, i < c.backends.length → isBk (c.backends.getD i zBackend) = true
  br : ∀ i, 0 < i → i < c.backends.length → (c.backends.getD (i - 1) zBackend).name < (c.backends.getD i zBackend).name
  vp : ∀ i, i < c.vips.length → isVp (c.vips.getD i zVip) = true
  vr : ∀ i, 0 < i → i < c.vips.length → behV (c.vips.getD (i - 1) zVip) (c.vips.getD i zVip) = true
  nb : ∀ i, i < c.vips.length → hasG (noB c.backends) (c.vips.getD i zVip).names = false
  nr : ∀ i, i < c.vips.length → rises (c.vips.getD i zVip).names
theorem nmBad_zero {v : Vip} : scan (nmBad v) v.names.length 1 = 0 ↔ rises v.names := by
  rw [scan_zero]
  constructor
  · intro h i h1 h2
    have := h i (by omega) h2
    unfold nmBad at this
    split at this
    · cases this
    · omega
  · intro h j h1 h2
    have := h j (by omega) h2
    unfold nmBad
    rw [if_neg (by omega)]
theorem cf_ok {c : Config} (h : configFault c = 0) : CfOk c := by
  unfold configFault at h
  split at h
  · cases h
  rename_i g1
  split at h
  · cases h
  rename_i g2
  split at h
  · rename_i g3; exact absurd h g3
  rename_i g3
  have g3 : scan (bkBad c.backends) c.backends.length 0 = 0 := by omega
  have g1 : inR c.version 0 1000000 = true := by simpa using g1
  simp only [inR, Bool.and_eq_true, decide_eq_true_eq] at g1
  have B : ∀ i, i < c.backends.length → isBk (c.backends.getD i zBackend) = true ∧ ¬ (0 < i ∧ (c.backends.getD i zBackend).name ≤ (c.backends.getD (i - 1) zBackend).name) := by
    intro i hi
    have := scan_zero.1 g3 i (by omega) hi
    unfold bkBad at this
    split at this
    · cases this
    rename_i e1
    split at this
    · cases this
    rename_i e2
    exact ⟨by simpa using e1, e2⟩
  have V : ∀ i, i < c.vips.length → isVp (c.vips.getD i zVip) = true ∧ ¬ (0 < i ∧ behV (c.vips.getD (i - 1) zVip) (c.vips.getD i zVip) = false) ∧ hasG (noB c.backends) (c.vips.getD i zVip).names = false ∧ rises (c.vips.getD i zVip).names := by
    intro i hi
    have := scan_zero.1 h i (by omega) hi
    unfold vipBad at this
    split at this
    · cases this
    rename_i e1
    split at this
    · cases this
    rename_i e2
    split at this
    · cases this
    rename_i e3
    exact ⟨by simpa using e1, e2, by simpa using e3, nmBad_zero.1 this⟩
  refine ⟨by omega, by omega, by omega, by omega, fun i hi => (B i hi).1, fun i h0 hi => ?_, fun i hi => (V i hi).1, fun i h0 hi => ?_, fun i hi => (V i hi).2.2.1, fun i hi => (V i hi).2.2.2⟩
  · have := (B i hi).2
    omega
  · have := (V i hi).2.1
    cases e : behV (c.vips.getD (i - 1) zVip) (c.vips.getD i zVip) with
    | true => rfl
    | false => exact absurd ⟨h0, e⟩ this
theorem br_lt {bs : List Backend} (br : ∀ i, 0 < i → i < bs.length → (bs.getD (i - 1) zBackend).name < (bs.getD i zBackend).name) {i : Nat} : ∀ {j : Nat}, i < j → j < bs.length → (bs.getD i zBackend).name < (bs.getD j zBackend).name
  | 0, h1, _ => by omega
  | j + 1, h1, h2 => by
    have e := br (j + 1) (by omega) h2
    simp only [Nat.add_sub_cancel] at e
    by_cases hij : i = j
    · subst hij; exact e
    · have := br_lt br (i := i) (j := j) (by omega) (by omega)
      omega
theorem behV_trans {a b c : Vip} (h1 : behV a b = true) (h2 : behV b c = true) : behV a c = true := by
  unfold behV at *
  grind
theorem behV_asym {a b : Vip} (h1 : behV a b = true) : behV b a = false := by
  unfold behV at *
  grind
theorem behV_tri {a b : Vip} (h1 : behV a b = false) (h2 : isV b.address b.port b.proto a = false) : behV b a = true := by
  unfold behV isV at *
  grind
theorem vr_lt {vs : List Vip} (vr : ∀ i, 0 < i → i < vs.length → behV (vs.getD (i - 1) zVip) (vs.getD i zVip) = true) {i : Nat} : ∀ {j : Nat}, i < j → j < vs.length → behV (vs.getD i zVip) (vs.getD j zVip) = true
  | 0, h1, _ => by omega
  | j + 1, h1, h2 => by
    have e := vr (j + 1) (by omega) h2
    simp only [Nat.add_sub_cancel] at e
    by_cases hij : i = j
    · subst hij; exact e
    · exact behV_trans (vr_lt vr (i := i) (j := j) (by omega) (by omega)) e
theorem put_b {c : Config} (K : CfOk c) {x : Cmd} (h : findB c.backends x.name < 0) : preG (ltB x.name) c.backends ≤ c.backends.length ∧ (∀ q, preG (ltB x.name) c.backends ≤ q → q < c.backends.length → cmpB (bOf x) (c.backends.getD q zBackend) < 0) ∧ (∀ q, q < preG (ltB x.name) c.backends → ¬ cmpB (bOf x) (c.backends.getD q zBackend) < 0) ∧ ∀ i, 0 < i → i < c.backends.length → ¬ cmpB (c.backends.getD i zBackend) (c.backends.getD (i - 1) zBackend) < 0 := by
  refine ⟨preG_le .., fun q h1 h2 => ?_, fun q h1 => ?_, fun i h1 h2 => ?_⟩
  · rw [cmpB_lt]
    have hn := (idxG_neg zBackend h).2 q h2
    have ha := preG_at zBackend (p := ltB x.name) (xs := c.backends) (by omega)
    simp only [ltB, isB, decide_eq_false_iff_not] at ha hn
    show x.name < _
    by_cases e : q = preG (ltB x.name) c.backends
    · rw [← e] at ha
      omega
    · have := br_lt K.br (i := preG (ltB x.name) c.backends) (j := q) (by omega) h2
      omega
  · rw [cmpB_lt]
    have := preG_lt zBackend h1
    simp only [ltB, decide_eq_true_eq] at this
    show ¬ x.name < _
    omega
  · rw [cmpB_lt]
    have := K.br i h1 h2
    omega
theorem cmpV_neg (a b : Vip) : cmpV a b < 0 ↔ behV a b = true := by rw [← cmpV_lt]; simp
theorem put_v {c : Config} (K : CfOk c) {x : Cmd} (h : findV c.vips x.addr x.number x.proto < 0) : preG (ltV (vOf x)) c.vips ≤ c.vips.length ∧ (∀ q, preG (ltV (vOf x)) c.vips ≤ q → q < c.vips.length → cmpV (vOf x) (c.vips.getD q zVip) < 0) ∧ (∀ q, q < preG (ltV (vOf x)) c.vips → ¬ cmpV (vOf x) (c.vips.getD q zVip) < 0) ∧ ∀ i, 0 < i → i < c.vips.length → ¬ cmpV (c.vips.getD i zVip) (c.vips.getD (i - 1) zVip) < 0 := by
  refine ⟨preG_le .., fun q h1 h2 => ?_, fun q h1 => ?_, fun i h1 h2 => ?_⟩
  · rw [cmpV_neg]
    have hn := (idxG_neg zVip h).2 q h2
    have ha := preG_at zVip (p := ltV (vOf x)) (xs := c.vips) (by omega)
    have hn2 := (idxG_neg zVip h).2 (preG (ltV (vOf x)) c.vips) (by omega)
    have hb := behV_tri (a := c.vips.getD (preG (ltV (vOf x)) c.vips) zVip) (b := vOf x) ha hn2
    by_cases e : q = preG (ltV (vOf x)) c.vips
    · rw [← e] at hb
      exact hb
    · exact behV_trans hb (vr_lt K.vr (i := preG (ltV (vOf x)) c.vips) (j := q) (by omega) h2)
  · rw [cmpV_neg]
    have h3 : behV (c.vips.getD q zVip) (vOf x) = true := preG_lt zVip h1
    rw [behV_asym h3]
    simp
  · rw [cmpV_neg, behV_asym (K.vr i h1 h2)]
    simp
theorem riseL_len (xs : List Int) (v : Int) : (riseL xs v).length ≤ xs.length + 1 := by
  have := lbn_le xs v
  unfold riseL
  split
  · omega
  · simp; omega
theorem cutG_len {α : Type} (xs : List α) (i : Nat) : (cutG xs i).length ≤ xs.length := by unfold cutG; simp; omega
theorem putG_len {α : Type} (p : α → Bool) (xs : List α) (b : α) : (putG p xs b).length = xs.length + 1 := by
  have := preG_le p xs
  unfold putG
  simp; omega
theorem cutG_mem {α : Type} {xs : List α} {i : Nat} {y : α} (h : y ∈ cutG xs i) : y ∈ xs := by
  unfold cutG at h
  rcases List.mem_append.1 h with h | h
  · exact List.mem_of_mem_take h
  · exact List.mem_of_mem_drop h
theorem putG_mem {α : Type} {p : α → Bool} {xs : List α} {b y : α} (h : y ∈ putG p xs b) : y ∈ xs ∨ y = b := by
  unfold putG at h
  rcases List.mem_append.1 h with h | h
  · rcases List.mem_append.1 h with h | h
    · exact .inl (List.mem_of_mem_take h)
    · exact .inr (by simpa using h)
  · exact .inl (List.mem_of_mem_drop h)
theorem setV_lim {b : Nat} {c : Config} {n : Nat} {v : Vip} (h : limG b c) (hv : limV b v) : limG b (setV c n v) := by
  refine ⟨h.1, by simp [setV]; exact h.2.1, fun y hy => ?_⟩
  rcases List.mem_or_eq_of_mem_set hy with h1 | h1
  · exact h.2.2 y h1
  · rw [h1]; exact hv
theorem turned_lim {b : Nat} {c : Config} (h : limG b c) (x : Cmd) : limG (b + 1) (turned c x).2 := by
  have h1 : limG (b + 1) c := limG_mono (by omega) h
  have hat : ∀ n, limV b (c.vips.getD n zVip) := fun n => by
    by_cases hn : n < c.vips.length
    · exact h.2.2 _ (getD_mem zVip hn)
    · rw [List.getD_eq_getElem?_getD, List.getElem?_eq_none (by omega)]
      simp [limV, zVip]
  have hl := h.1
  have hl2 := h.2.1
  unfold turned turnV turnB
  repeat' split
  all_goals first
    | exact h1
    | exact ⟨by simp [putG_len]; omega, h1.2.1, h1.2.2⟩
    | exact ⟨by simp [setB]; omega, h1.2.1, h1.2.2⟩
    | (refine ⟨?_, h1.2.1, h1.2.2⟩; have := cutG_len c.backends (bAt c x.name); show (cutG _ _).length ≤ _; omega)
    | (refine ⟨h1.1, ?_, fun y hy => ?_⟩; (show (putG _ _ _).length ≤ _; rw [putG_len]; omega); rcases putG_mem hy with hy | hy; (exact h1.2.2 y hy); rw [hy]; simp [limV, vOf])
    | (refine ⟨h1.1, ?_, fun y hy => h1.2.2 y (cutG_mem hy)⟩; have := cutG_len c.vips (vAt c x); show (cutG _ _).length ≤ _; omega)
    | (refine setV_lim h1 ?_; have := riseL_len (c.vips.getD (vAt c x) zVip).names x.name; have := hat (vAt c x); unfold limV at *; show (riseL _ _).length ≤ _; omega)
    | (refine setV_lim h1 ?_; have := cutG_len (c.vips.getD (vAt c x) zVip).names (lbn (c.vips.getD (vAt c x) zVip).names x.name); have := hat (vAt c x); unfold limV at *; show (cutG _ _).length ≤ _; omega)
theorem zConfig_lim (b : Nat) : limG b zConfig := ⟨by simp [zConfig], by simp [zConfig], by simp [zConfig]⟩
theorem applyR_lim {b : Nat} {c : Config} (h : limG b c) (x : Cmd) : limG (b + 1) (applyR c x).config := by
  unfold applyR
  repeat' split
  · exact zConfig_lim _
  · exact zConfig_lim _
  · exact zConfig_lim _
  · have := turned_lim h x
    exact ⟨this.1, this.2.1, this.2.2⟩
theorem applyCmd_lim {b : Nat} {c : Config} (h : limG b c) (x : Cmd) : limG (b + 1) (applyCmd c x).config := by
  unfold applyCmd
  repeat' split
  · exact zConfig_lim _
  · exact zConfig_lim _
  · exact applyR_lim h x
theorem set_map_I (l : List Int) (n : Nat) (v : Int) : (l.map eI_i64).set n [.int .i64 v] = (l.set n v).map eI_i64 := by simp [List.map_set, eI_i64]
theorem del_rowsR (R : List (List T)) {i j : Nat} (hij : i ≤ j) (hj : j ≤ R.length) (J Z Q : List (List T)) : List.take (i + (R.length - j)) (List.take (i + (R.length - j)) (R.take i ++ R.drop j ++ J) ++ Z ++ Q) = R.take i ++ R.drop j := by
  have hl : (R.take i ++ R.drop j).length = i + (R.length - j) := by simp; omega
  rw [← hl, List.take_left, List.append_assoc, List.take_left]
theorem ins_grow {α : Type} {R V Z D D' J : List α} {i N a b c : Nat} (hi : i ≤ R.length) (hN : N = R.length + V.length) (ha : a = i + V.length) (hb : V.length ≤ b) (hc : c = R.length - i) :
    List.take N (List.take a (List.take i (List.take i R ++ Z) ++ List.take b V ++ D) ++ List.take c (List.drop i (R ++ J)) ++ D') = List.take i R ++ V ++ List.drop i R := by
  rw [List.take_left' (by simp; omega), List.take_of_length_le hb, List.take_left' (by simp; omega), List.drop_append_of_le_length hi, List.take_left' (l₁ := List.drop i R) (by simp; omega), List.take_left' (by simp; omega)]
theorem ins_room {α : Type} {R V D J : List α} {i N a a2 b c : Nat} (hi : i ≤ R.length) (hJ : R.length + V.length ≤ (R ++ J).length) (hN : N = R.length + V.length) (ha : a = i + V.length) (ha2 : a2 = i + V.length) (hb : V.length ≤ b) (hc : c = R.length - i) :
    List.take N (List.take i (List.take a (R ++ J) ++ List.take c (List.drop i (R ++ J)) ++ D) ++ List.take b V ++ List.drop a2 (List.take a (R ++ J) ++ List.take c (List.drop i (R ++ J)) ++ D)) = List.take i R ++ V ++ List.drop i R := by
  have e1 : List.take i (List.take a (R ++ J) ++ List.take c (List.drop i (R ++ J)) ++ D) = List.take i R := by
    rw [List.append_assoc, List.take_append_of_le_length (by simp only [List.length_take]; omega), List.take_take, Nat.min_eq_left (by omega), List.take_append_of_le_length hi]
  have e2 : List.drop a2 (List.take a (R ++ J) ++ List.take c (List.drop i (R ++ J)) ++ D) = List.drop i R ++ D := by
    rw [List.append_assoc, List.drop_left' (by simp only [List.length_take]; omega), List.drop_append_of_le_length hi, List.take_left' (l₁ := List.drop i R) (by simp; omega)]
  rw [e1, e2, List.take_of_length_le hb, ← List.append_assoc, List.take_left' (by simp; omega)]
theorem flat_I (xs : List Int) : ∀ r ∈ xs.map eI_i64, ∀ t ∈ r, t.flat = true := by
  intro r hr t ht
  simp only [List.mem_map] at hr
  obtain ⟨x, _, rfl⟩ := hr
  simp [eI_i64] at ht
  subst ht
  rfl
theorem riseL_no {xs : List Int} {v : Int} (h : hasI xs v = false) : (riseL xs v).map eI_i64 = List.take (lbn xs v) (xs.map eI_i64) ++ [[T.int .i64 v]] ++ List.drop (lbn xs v) (xs.map eI_i64) := by
  unfold riseL
  rw [h]
  simp [eI_i64]
theorem riseL_has {xs : List Int} {v : Int} (h : hasI xs v = true) : riseL xs v = xs := by
  unfold riseL
  rw [if_pos h]
def orL : List Int → Int
  | [] => 0
  | x :: xs => if x ≠ 0 then x else orL xs
theorem orL_zero : ∀ {xs : List Int}, (∀ j, j < xs.length → xs.getD j zI_i64 = 0) → orL xs = 0
  | [], _ => rfl
  | x :: xs, h => by
    have h0 := h 0 (by simp)
    simp only [List.getD_cons_zero] at h0
    rw [orL, if_neg (by omega)]
    exact orL_zero fun j hj => by simpa using h (j + 1) (by simpa using hj)
theorem orL_some : ∀ {xs : List Int} {i : Nat}, i < xs.length → (∀ j, j < i → xs.getD j zI_i64 = 0) → xs.getD i zI_i64 ≠ 0 → orL xs = xs.getD i zI_i64
  | [], _, h, _, _ => by simp at h
  | x :: xs, 0, _, _, h => by
    simp only [List.getD_cons_zero] at h ⊢
    rw [orL, if_pos h]
  | x :: xs, i + 1, hi, h, hx => by
    have h0 := h 0 (by omega)
    simp only [List.getD_cons_zero] at h0
    rw [orL, if_neg (by omega)]
    have := orL_some (xs := xs) (i := i) (by simpa using hi) (fun j hj => by simpa using h (j + 1) (by omega)) (by simpa using hx)
    simpa using this
theorem cmpV_or (a b : Vip) : orL [cmpI a.address b.address, cmpI a.port b.port, cmpI a.proto b.proto] = cmpV a b := by
  unfold orL cmpV
  simp only [orL]
  repeat' split
  all_goals first | rfl | omega | (exfalso; simp_all; done)
theorem roRows_Vip (o : Bool) (xs : List Vip) : roRows (xs.map (eVip o)) = xs.map (eVip false) := roRows_map _ _ (fun _ => rfl) xs
attribute [go_sem] roRows_Vip
theorem mix_getD {α : Type} (f g : α → List T) (z : α) {xs : List α} {i : Nat} (h : i < xs.length) (d : List T) : ((xs.take i).map f ++ (xs.drop i).map g).getD i d = g (xs.getD i z) := by
  rw [drop_getD z h, List.getD_eq_getElem?_getD, List.getElem?_append_right (by simp; omega)]
  simp [Nat.min_eq_left (Nat.le_of_lt h)]
theorem mix_set {α : Type} (f g : α → List T) (z : α) {xs : List α} {i : Nat} (h : i < xs.length) : ((xs.take i).map f ++ (xs.drop i).map g).set i (f (xs.getD i z)) = (xs.take (i + 1)).map f ++ (xs.drop (i + 1)).map g := by
  rw [take_succ_map f z h, drop_getD z h, List.map_cons, List.set_append_right _ _ (by simp; omega)]
  simp [Nat.min_eq_left (Nat.le_of_lt h)]
theorem put_rows {α : Type} (f : α → List T) (xs : List α) {k : Nat} (hk : k ≤ xs.length) (V : List T) : List.take (min k xs.length + 1 + (xs.length - k)) (List.take (min k xs.length + 1) (List.take (min k xs.length) (xs.map f) ++ [V]) ++ List.drop k (xs.map f)) = List.take k (xs.map f) ++ V :: List.drop k (xs.map f) := by
  rw [Nat.min_eq_left hk]
  have e1 : List.take (k + 1) (List.take k (xs.map f) ++ [V]) = List.take k (xs.map f) ++ [V] := List.take_of_length_le (by simp; omega)
  rw [e1, List.take_of_length_le (by simp; omega), List.append_assoc]
  rfl
theorem cut_rows {α : Type} (f : α → List T) (xs : List α) {n : Nat} (hn : n < xs.length) : List.take (min n xs.length + (xs.length - (n + 1))) (List.take (min n xs.length) (xs.map f) ++ List.drop (n + 1) (xs.map f)) = List.take n (xs.map f) ++ List.drop (n + 1) (xs.map f) := by
  rw [Nat.min_eq_left (by omega)]
  exact List.take_of_length_le (by simp; omega)
theorem limV_getD {b : Nat} {vs : List Vip} (h : ∀ y ∈ vs, limV b y) (n : Nat) : limV b (vs.getD n zVip) := by
  by_cases hn : n < vs.length
  · exact h _ (getD_mem zVip hn)
  · rw [List.getD_eq_getElem?_getD, List.getElem?_eq_none (by omega)]
    simp [limV, zVip]
theorem filter_take {α : Type} (p : α → Bool) (z : α) {xs : List α} {i : Nat} (h : i < xs.length) : (xs.take (i + 1)).filter p = (xs.take i).filter p ++ (if p (xs.getD i z) = true then [xs.getD i z] else []) := by
  rw [take_snoc z h, List.filter_append]
  congr 1
  simp only [List.filter_cons, List.filter_nil]
theorem junk_drop0 {α : Type} (J : List T) (f : α → List T) (xs : List α) (n : Nat) : List.drop n (List.replicate n J ++ List.map f (List.drop n xs)) = List.map f (List.drop n xs) := by
  rw [List.drop_append, List.drop_of_length_le (by simp), List.nil_append, List.length_replicate, Nat.sub_self]
  rfl
attribute [go_sem] junk_drop0
theorem idxG_bd {α : Type} (q : α → Bool) : ∀ (xs : List α), idxG q xs < xs.length
  | [] => by simp [idxG]
  | x :: xs => by
    have := idxG_bd q xs
    rw [idxG, List.length_cons]
    split
    · omega
    · split <;> omega
theorem put_rowsV (f : Vip → List T) (xs : List Vip) {k : Nat} (hk : k ≤ xs.length) (V : List T) : List.take (k + 1 + (xs.length - k)) (List.take (k + 1) (List.map f (List.take k xs) ++ [V]) ++ List.map f (List.drop k xs)) = List.map f (List.take k xs) ++ V :: List.map f (List.drop k xs) := by
  have e1 : List.take (k + 1) (List.map f (List.take k xs) ++ [V]) = List.map f (List.take k xs) ++ [V] := List.take_of_length_le (by simp; omega)
  rw [e1, List.take_of_length_le (by simp; omega), List.append_assoc]
  rfl
theorem put_rowsW (f : Vip → List T) (xs : List Vip) {k : Nat} (hk : k ≤ xs.length) (V : List T) : List.take (k + 1 + (xs.length - k)) (List.take (k + 1) (List.take k (List.map f xs) ++ [V]) ++ List.drop k (List.map f xs)) = List.take k (List.map f xs) ++ V :: List.drop k (List.map f xs) := by
  have := put_rowsV f xs hk V
  simpa only [List.map_take, List.map_drop] using this
theorem cut_rowsV (xs : List Vip) {n : Nat} (hn : n < xs.length) : List.take (n + (xs.length - (n + 1))) (List.take n xs ++ List.drop (n + 1) xs) = cutG xs n := List.take_of_length_le (by simp; omega)
def insAt {α : Type} (R : List α) (b : α) (j : Nat) : List α := R.take j ++ b :: R.drop j
def rowI {α : Type} (R : List α) (b : α) (i j : Nat) : List α := if i < R.length then R ++ [b] else insAt R b j
def rowO {α : Type} (R : List α) (b : α) (k i : Nat) : List α := if i ≤ R.length then R ++ [b] else insAt R b k
def verO {α : Type} (R : List α) (k i : Nat) : Nat := if i ≤ R.length then 1 else 1 + 2 * (R.length - k)
theorem insAt_len {α : Type} (R : List α) (b : α) (j : Nat) : (insAt R b j).length = R.length + 1 := by unfold insAt; simp; omega
theorem insAt_end {α : Type} (R : List α) (b : α) : insAt R b R.length = R ++ [b] := by unfold insAt; simp
theorem rowI_len {α : Type} (R : List α) (b : α) (i j : Nat) : (rowI R b i j).length = R.length + 1 := by
  unfold rowI
  split
  · simp
  · exact insAt_len ..
theorem rowO_len {α : Type} (R : List α) (b : α) (k i : Nat) : (rowO R b k i).length = R.length + 1 := by
  unfold rowO
  split
  · simp
  · exact insAt_len ..
theorem rowI_self {α : Type} (R : List α) (b : α) {i : Nat} (h : i ≤ R.length) : rowI R b i i = R ++ [b] := by
  unfold rowI
  split
  · rfl
  · rw [show i = R.length by omega]; exact insAt_end R b
theorem rowO_in {α : Type} (R : List α) (b : α) (k : Nat) {i : Nat} (h : i ≤ R.length) : rowO R b k i = R ++ [b] := if_pos h
theorem verO_in {α : Type} (R : List α) (k : Nat) {i : Nat} (h : i ≤ R.length) : verO R k i = 1 := if_pos h
theorem rowO_one {α : Type} (R : List α) (b : α) {k : Nat} (hk : k ≤ R.length) : rowO R b k 1 = R ++ [b] := by
  unfold rowO
  split
  · rfl
  · rw [show k = R.length by omega]; exact insAt_end R b
theorem verO_one {α : Type} (R : List α) {k : Nat} (hk : k ≤ R.length) : verO R k 1 = 1 := by
  unfold verO
  split
  · rfl
  · omega
theorem rowO_out {α : Type} (R : List α) (b : α) (k : Nat) : rowO R b k (R.length + 1) = insAt R b k := if_neg (by omega)
theorem rowI_lo {α : Type} (R : List α) (b : α) (z : α) {i j q : Nat} (h : i < R.length) (hq : q ≤ i) : (rowI R b i j).getD q z = R.getD q z := by
  unfold rowI
  rw [if_pos h, List.getD_eq_getElem?_getD, List.getElem?_append_left (by omega), ← List.getD_eq_getElem?_getD]
theorem rowI_at {α : Type} (R : List α) (b : α) (z : α) {i j : Nat} (h : i = R.length) (hj : j ≤ i) : (rowI R b i j).getD j z = b := by
  unfold rowI insAt
  rw [if_neg (by omega), List.getD_eq_getElem?_getD, List.getElem?_append_right (by simp; omega)]
  simp [Nat.min_eq_left (show j ≤ R.length by omega)]
theorem rowI_pre {α : Type} (R : List α) (b : α) (z : α) {i j : Nat} (h : i = R.length) (hj : j ≤ i) (h0 : 0 < j) : (rowI R b i j).getD (j - 1) z = R.getD (j - 1) z := by
  unfold rowI insAt
  rw [if_neg (by omega), List.getD_eq_getElem?_getD, List.getElem?_append_left (by simp; omega), List.getElem?_take_of_lt (by omega), ← List.getD_eq_getElem?_getD]
theorem rowI_swap {α : Type} (e : α → List T) (R : List α) (b : α) (z : α) {i j : Nat} (h : i = R.length) (hj : j ≤ i) (h0 : 0 < j) :
    (((rowI R b i j).map e).set j (e ((rowI R b i j).getD (j - 1) z))).set (j - 1) (e ((rowI R b i j).getD j z)) = (rowI R b i (j - 1)).map e := by
  rw [rowI_at R b z h hj, rowI_pre R b z h hj h0]
  unfold rowI insAt
  rw [if_neg (by omega), if_neg (by omega)]
  obtain ⟨m, rfl⟩ : ∃ m, j = m + 1 := ⟨j - 1, by omega⟩
  simp only [Nat.add_sub_cancel]
  have hm : m < R.length := by omega
  rw [take_snoc z hm, drop_getD z hm]
  have e1 : (List.map e (List.take m R ++ [R.getD m z] ++ b :: List.drop (m + 1) R)) = List.map e (List.take m R) ++ (e (R.getD m z) :: e b :: List.map e (List.drop (m + 1) R)) := by simp
  rw [e1, List.set_append_right _ _ (by simp; omega), List.set_append_right _ _ (by simp; omega)]
  have hl : (List.map e (List.take m R)).length = m := by simp; omega
  rw [hl, Nat.sub_self, show m + 1 - m = 1 by omega]
  simp
theorem rowI_end {α : Type} {cm : α → α → Int} {R : List α} {b : α} (z : α) {i j k : Nat} (hi : i ≤ R.length) (hj : j ≤ i) (h1 : ∀ q, k ≤ q → q < R.length → cm b (R.getD q z) < 0) (h4 : i = R.length → k ≤ j)
    (hc : ¬ (0 < j ∧ cm ((rowI R b i j).getD j z) ((rowI R b i j).getD (j - 1) z) < 0)) : rowI R b i j = rowO R b k (i + 1) ∧ (i = R.length → j = k) := by
  have hjk : i = R.length → j = k := fun h => by
    by_cases h0 : 0 < j
    · rw [rowI_at R b z h hj, rowI_pre R b z h hj h0] at hc
      by_cases hk : k ≤ j - 1
      · exact absurd ⟨h0, h1 (j - 1) hk (by omega)⟩ hc
      · have := h4 h
        omega
    · have := h4 h
      omega
  refine ⟨?_, hjk⟩
  unfold rowI rowO
  by_cases h : i < R.length
  · rw [if_pos h, if_pos (by omega)]
  · rw [if_neg h, if_neg (by omega), hjk (by omega)]
theorem rowI_go {α : Type} {cm : α → α → Int} {R : List α} {b : α} (z : α) {i j k : Nat} (hi : i ≤ R.length) (hj : j ≤ i) (h3 : ∀ i, 0 < i → i < R.length → ¬ cm (R.getD i z) (R.getD (i - 1) z) < 0) (h5 : i < R.length → j = i) (h2 : ∀ q, q < k → ¬ cm b (R.getD q z) < 0)
    (hc : 0 < j ∧ cm ((rowI R b i j).getD j z) ((rowI R b i j).getD (j - 1) z) < 0) : i = R.length ∧ k ≤ j - 1 := by
  obtain ⟨h0, hc⟩ := hc
  have h : i = R.length := by
    by_cases h : i < R.length
    · have e := h5 h
      subst e
      rw [rowI_lo R b z h (by omega), rowI_lo R b z h (by omega)] at hc
      exact absurd hc (h3 _ h0 h)
    · omega
  refine ⟨h, ?_⟩
  rw [rowI_at R b z h hj, rowI_pre R b z h hj h0] at hc
  by_cases hk : k ≤ j - 1
  · exact hk
  · exact absurd hc (h2 (j - 1) (by omega))
attribute [go_sem] rowI_len rowO_len insAt_len
abbrev RVp := Vip × (Option Addr × Nat × Nat)
def eRV (p : RVp) : List T := [.int .i64 p.1.address, .int .i64 p.1.port, .int .i64 p.1.proto, .val (.slice p.2.1 p.2.2.1 p.2.2.2)]
def zRV : RVp := (zVip, none, 0, 0)
def dRV : List T := eRV zRV
theorem getD_RV (xs : List RVp) (i : Nat) : (xs.map eRV).getD i dRV = eRV (xs.getD i zRV) := getD_map_ ..
theorem tm_RV : tm dRV = [.int .i64 0, .int .i64 0, .int .i64 0, .val (.slice none 0 0)] := rfl
theorem dropd_RV : List.drop 4 dRV = [] := rfl
attribute [go_sem] eRV getD_RV tm_RV dropd_RV
def OwN (w : World) (fz : Nat → Prop) : List RVp → (Nat → Prop) → Prop
  | [], _ => True
  | p :: ps, S => ∃ S1 S2 : Nat → Prop, (∀ b, S1 b → S b ∧ ¬ S2 b) ∧ (∀ b, S2 b → S b) ∧ OwT w fz (.sl true 1 (p.1.names.map eI_i64)) S1 (.slice p.2.1 p.2.2.1 p.2.2.2) ∧ OwN w fz ps S2
theorem OwN.sub {w : World} {fz : Nat → Prop} : ∀ {zs : List RVp} {S S' : Nat → Prop}, (∀ b, S b → S' b) → OwN w fz zs S → OwN w fz zs S'
  | [], _, _, _, _ => trivial
  | p :: ps, S, S', h, hr => by
    obtain ⟨S1, S2, h1, h2, h3, h4⟩ := hr
    exact ⟨S1, S2, fun b hb => ⟨h b (h1 b hb).1, (h1 b hb).2⟩, fun b hb => h b (h2 b hb), h3, h4⟩
theorem OwN.mono {w w' : World} {fz fz' : Nat → Prop} (hs : w.heap.size ≤ w'.heap.size) (hf : ∀ b, b < w.heap.size → fz b → fz' b ∧ w'.heap[b]? = w.heap[b]?) : ∀ {zs : List RVp} {S : Nat → Prop}, (∀ b, S b → b < w.heap.size → w'.heap[b]? = w.heap[b]?) → OwN w fz zs S → OwN w' fz' zs S
  | [], _, _, _ => trivial
  | p :: ps, S, h, hr => by
    obtain ⟨S1, S2, h1, h2, h3, h4⟩ := hr
    exact ⟨S1, S2, h1, h2, OwT.mono hs hf (fun _ => id) (fun b hb => h b (h1 b hb).1) h3, OwN.mono hs hf (fun b hb => h b (h2 b hb)) h4⟩
theorem OwN.split {w : World} {fz : Nat → Prop} : ∀ {a b : List RVp} {S : Nat → Prop}, OwN w fz (a ++ b) S → ∃ S1 S2 : Nat → Prop, (∀ x, S1 x → S x ∧ ¬ S2 x) ∧ (∀ x, S2 x → S x) ∧ OwN w fz a S1 ∧ OwN w fz b S2
  | [], b, S, h => ⟨fun _ => False, S, fun _ h => h.elim, fun _ h => h, trivial, h⟩
  | p :: a, b, S, h => by
    obtain ⟨S1, S2, h1, h2, h3, h4⟩ := h
    obtain ⟨R1, R2, h5, h6, h7, h8⟩ := OwN.split h4
    refine ⟨fun x => S1 x ∨ R1 x, R2, fun x hx => ?_, fun x hx => h2 x (h6 x hx), ⟨S1, R1, fun x hx => ⟨.inl hx, fun hr => (h1 x hx).2 (h5 x hr).1⟩, fun x hx => .inr hx, h3, h7⟩, h8⟩
    rcases hx with hx | hx
    · exact ⟨(h1 x hx).1, fun hr => (h1 x hx).2 (h6 x hr)⟩
    · exact ⟨h2 x (h5 x hx).1, (h5 x hx).2⟩
theorem OwN.join {w : World} {fz : Nat → Prop} : ∀ {a b : List RVp} {S1 S2 : Nat → Prop}, (∀ x, S1 x → ¬ S2 x) → OwN w fz a S1 → OwN w fz b S2 → OwN w fz (a ++ b) (fun x => S1 x ∨ S2 x)
  | [], b, S1, S2, _, _, h2 => h2.sub fun _ => .inr
  | p :: a, b, S1, S2, hd, h1, h2 => by
    obtain ⟨R1, R2, h3, h4, h5, h6⟩ := h1
    refine ⟨R1, fun x => R2 x ∨ S2 x, fun x hx => ⟨.inl (h3 x hx).1, fun hr => ?_⟩, fun x hx => hx.imp (h4 x) id, h5, OwN.join (fun x hx => hd x (h4 x hx)) h6 h2⟩
    rcases hr with hr | hr
    · exact (h3 x hx).2 hr
    · exact hd x (h3 x hx).1 hr
theorem OwN.turn {w : World} {fz : Nat → Prop} {a b : List RVp} {S : Nat → Prop} (h : OwN w fz (a ++ b) S) : OwN w fz (b ++ a) S := by
  obtain ⟨S1, S2, h1, h2, h3, h4⟩ := h.split
  refine (OwN.join (fun x hx hy => (h1 x hy).2 hx) h4 h3).sub fun x hx => ?_
  rcases hx with hx | hx
  · exact h2 x hx
  · exact (h1 x hx).1
theorem OwN.ins {w : World} {fz : Nat → Prop} {R : List RVp} {b : RVp} (k : Nat) {S : Nat → Prop} (h : OwN w fz (R ++ [b]) S) : OwN w fz (insAt R b k) S := by
  have e : R ++ [b] = R.take k ++ (R.drop k ++ [b]) := by rw [← List.append_assoc, List.take_append_drop]
  rw [e] at h
  obtain ⟨S1, S2, h1, h2, h3, h4⟩ := h.split
  refine (OwN.join (b := [b] ++ R.drop k) (fun x hx => (h1 x hx).2) h3 h4.turn).sub fun x hx => ?_
  rcases hx with hx | hx
  · exact (h1 x hx).1
  · exact h2 x hx
theorem OwN.raw {w : World} {fz : Nat → Prop} : ∀ {xs : List Vip} {S : Nat → Prop} {vs : List Value}, OwRows w fz 4 (xs.map (eVip true)) S vs → ∃ zs : List RVp, zs.map (·.1) = xs ∧ OwRows w fz 4 (zs.map eRV) (fun _ => False) vs ∧ OwN w fz zs S
  | [], _, vs, h => ⟨[], rfl, by simpa only [List.map_nil, OwRows] using h, trivial⟩
  | x :: xs, S, vs, h => by
    simp only [List.map_cons, OwRows] at h
    obtain ⟨c, d, S1, S2, rfl, h1, h2, _, h3, h4⟩ := h
    obtain ⟨zs, e, h5, h6⟩ := OwN.raw h4
    simp only [eVip, OwL] at h3
    obtain ⟨u1, _, A1, B1, rfl, _, q1, e1, u2, _, A2, B2, rfl, _, q2, e2, u3, _, A3, B3, rfl, _, q3, e3, u4, _, A4, B4, rfl, q4, _, e4, rfl⟩ := h3
    have e5 := e4
    simp only [OwT] at e5
    obtain ⟨n1, n2, rfl, _⟩ := e5
    refine ⟨(x, n1, (x.names.map eI_i64).length, n2) :: zs, by simp [e], ?_, A4, S2, fun b hb => ?_, h2, e4, h6⟩
    · simp only [List.map_cons, OwRows]
      refine ⟨[u1, u2, u3, _], d, fun _ => False, fun _ => False, rfl, fun _ h => h.elim, fun _ h => h, rfl, ?_, h5⟩
      simp only [eRV, OwL]
      have hF : ∀ b : Nat, (fun _ : Nat => False) b → (fun _ : Nat => False) b ∧ ¬ (fun _ : Nat => False) b := fun _ h => h.elim
      simp only [OwT] at e1 e2 e3
      exact ⟨u1, _, fun _ => False, fun _ => False, rfl, hF, fun _ h => h, by simp only [OwT]; exact e1, u2, _, fun _ => False, fun _ => False, rfl, hF, fun _ h => h, by simp only [OwT]; exact e2, u3, _, fun _ => False, fun _ => False, rfl, hF, fun _ h => h, by simp only [OwT]; exact e3,
        _, _, fun _ => False, fun _ => False, rfl, hF, fun _ h => h, by simp only [OwT], rfl⟩
    · exact h1 b (q1 b (q2 b (q3 b (q4 b hb).1)))
theorem OwN.back {w : World} {fz : Nat → Prop} : ∀ {zs : List RVp} {S0 S : Nat → Prop} {vs : List Value}, OwRows w fz 4 (zs.map eRV) S0 vs → OwN w fz zs S → OwRows w fz 4 ((zs.map (·.1)).map (eVip true)) S vs
  | [], _, _, vs, h, _ => by simpa only [List.map_nil, OwRows] using h
  | p :: zs, S0, S, vs, h, hn => by
    simp only [List.map_cons, OwRows] at h ⊢
    obtain ⟨c, d, S1, S2, rfl, h1, h2, _, h3, h4⟩ := h
    obtain ⟨R1, R2, n1, n2, n3, n4⟩ := hn
    refine ⟨c, d, R1, R2, rfl, n1, n2, rfl, ?_, OwN.back h4 n4⟩
    simp only [eRV, OwL] at h3
    obtain ⟨u1, _, A1, B1, rfl, _, q1, e1, u2, _, A2, B2, rfl, _, q2, e2, u3, _, A3, B3, rfl, _, q3, e3, u4, _, A4, B4, rfl, q4, _, e4, rfl⟩ := h3
    simp only [OwT] at e1 e2 e3 e4
    subst e4
    simp only [eVip, OwL]
    have hF : ∀ b : Nat, (fun _ : Nat => False) b → R1 b ∧ ¬ R1 b := fun _ h => h.elim
    exact ⟨u1, _, fun _ => False, R1, rfl, hF, fun _ h => h, by simp only [OwT]; exact e1, u2, _, fun _ => False, R1, rfl, hF, fun _ h => h, by simp only [OwT]; exact e2, u3, _, fun _ => False, R1, rfl, hF, fun _ h => h, by simp only [OwT]; exact e3,
      _, _, R1, fun _ => False, rfl, fun _ h => ⟨h, id⟩, fun _ h => h.elim, n3, rfl⟩
theorem SemX_rawVip {P : Program} [Inv P] {f : FuncId} {av : List Arg} {rs : List TV} {R : List Vip} {b : Vip} {k : Nat} (h : ∀ (R' : List RVp) (b' : RVp), R'.map (·.1) = R → b'.1 = b → SemX P f av [.arr 4 ((R' ++ [b']).map eRV)] rs [.arr 4 ((insAt R' b' k).map eRV)]) :
    SemX P f av [.arr 4 ((R ++ [b]).map (eVip true))] rs [.arr 4 ((insAt R b k).map (eVip true))] := by
  intro w fz Sa So hs vs hI hfz hS hd ha ho
  simp only [ObRepL, ObRep, OwT] at ho
  obtain ⟨_, us, S1, S2, rfl, h1, h2, ⟨base, cap, rfl, hc, hm, hrow⟩, rfl⟩ := ho
  rcases hrow with ⟨he, _⟩ | ⟨bb, cur, e, rfl, hb, hbb, hsz, hrow⟩
  · simp at he
  obtain ⟨zs, hz, hz1, hz2⟩ := OwN.raw hrow
  obtain ⟨R', l2, rfl, rfl, e2⟩ := List.map_eq_append_iff.1 hz
  obtain ⟨b', rfl, rfl⟩ : ∃ b' : RVp, l2 = [b'] ∧ b'.1 = b := by
    cases l2 with
    | nil => simp at e2
    | cons b' l =>
      simp only [List.map_cons, List.cons.injEq, List.map_eq_nil_iff] at e2
      exact ⟨b', by rw [e2.2], e2.1⟩
  have hlt : bb < w.heap.size := (Array.getElem?_eq_some_iff.1 hbb).1
  have hSo : So bb := (h1 bb hb).1
  have hlen : ((R'.map (·.1) ++ [b'.1]).map (eVip true)).length = ((R' ++ [b']).map eRV).length := by simp
  have hlen2 : ((insAt R' b' k).map eRV).length = ((R' ++ [b']).map eRV).length := by simp [insAt_len]
  rw [hlen] at hc hz1 ha ⊢
  refine (h R' b' rfl rfl w fz Sa (fun x => x = bb) _ vs hI hfz (fun x hx => ?_) (fun x hx e => ?_) ha ?_).mono ?_
  · rcases hx with hx | rfl
    · exact hS x (.inl hx)
    · exact hS x (.inr hSo)
  · subst e; exact hd x hx hSo
  · simp only [ObRepL, ObRep, OwT]
    exact ⟨_, [], fun x => x = bb, fun _ => False, rfl, fun x hx => ⟨hx, id⟩, fun _ h => h.elim, ⟨_, cap, rfl, hc, hm, .inr ⟨bb, cur, e, rfl, rfl, hbb, hsz, OwRows.sub (fun _ h => h.elim) hz1⟩⟩, rfl⟩
  rintro e w' ⟨v, fz', Sr, So', p⟩
  have po := p.obs
  simp only [ObRepL, ObRep, OwT] at po
  obtain ⟨_, _, T1, T2, hh, t1, t2, ⟨base', cap', rfl, hc', hm', hrow'⟩, rfl⟩ := po
  simp only [List.cons.injEq, Value.slice.injEq, and_true] at hh
  obtain ⟨rfl, _, rfl⟩ := hh
  rcases hrow' with ⟨he, _⟩ | ⟨b2, cur2, el2, hb2, hT, hbb2, hsz2, hrow2⟩
  · simp [insAt] at he
  simp only [Option.some.injEq, Addr.mk.injEq, and_true] at hb2
  subst hb2
  have hN : ∀ x, (S1 x ∧ x ≠ bb) → So x ∧ x < w.heap.size ∧ ¬ fz x ∧ ¬ Sa x ∧ x ≠ bb := fun x hx => by
    have h3 := (h1 x hx.1).1
    have h4 := hS x (.inr h3)
    exact ⟨h3, h4.1, h4.2.1, fun h5 => hd x h5 h3, hx.2⟩
  have hsame : ∀ x, (S1 x ∧ x ≠ bb) → x < w.heap.size → w'.heap[x]? = w.heap[x]? := fun x hx hl => p.same x hl fun h3 => by
    rcases h3 with h3 | h3
    · exact (hN x hx).2.2.2.1 h3
    · exact hx.2 h3
  have hfzm : ∀ x, x < w.heap.size → fz x → fz' x ∧ w'.heap[x]? = w.heap[x]? := fun x hl hx => ⟨p.fz1 x hx, p.same x hl fun h3 => by
    rcases h3 with h3 | h3
    · exact (hS x (.inl h3)).2.1 hx
    · subst h3; exact (hS x (.inr hSo)).2.1 hx⟩
  have hq := (OwN.mono p.size hfzm hsame hz2).ins k
  have hnf : ∀ x, (S1 x ∧ x ≠ bb) → ¬ fz' x := fun x hx h3 => by
    obtain ⟨n1, n2, n3, n4, n5⟩ := hN x hx
    rcases (p.fz2 x h3).2 with h4 | (h4 | h4) | h4
    · exact n3 h4
    · exact n4 h4
    · exact n5 h4
    · omega
  refine ⟨v, fz', Sr, fun x => x = bb ∨ (S1 x ∧ x ≠ bb), ⟨p.ret, p.os, p.tape, p.output, p.size, fun x hl hx => p.same x hl fun h3 => hx ?_, p.fz1, fun x hx => ?_, fun x hx => ?_, fun x hx h3 => ?_, p.res, ?_⟩⟩
  · rcases h3 with h3 | rfl
    · exact .inl h3
    · exact .inr hSo
  · refine ⟨(p.fz2 x hx).1, ?_⟩
    rcases (p.fz2 x hx).2 with h4 | (h4 | h4) | h4
    · exact .inl h4
    · exact .inr (.inl (.inl h4))
    · subst h4; exact .inr (.inl (.inr hSo))
    · exact .inr (.inr h4)
  · rcases hx with hx | hx | hx
    · obtain ⟨a1, a2, a3⟩ := p.own x (.inl hx)
      refine ⟨a1, a2, ?_⟩
      rcases a3 with (a3 | a3) | a3
      · exact .inl (.inl a3)
      · subst a3; exact .inl (.inr hSo)
      · exact .inr a3
    · subst hx
      obtain ⟨a1, a2, a3⟩ := p.own x (.inr (t1 x hT).1)
      exact ⟨a1, a2, .inl (.inr hSo)⟩
    · obtain ⟨n1, n2, n3, n4, n5⟩ := hN x hx
      exact ⟨Nat.lt_of_lt_of_le n2 p.size, hnf x hx, .inl (.inr n1)⟩
  · rcases h3 with h3 | h3
    · subst h3; exact p.dis x hx (t1 x hT).1
    · obtain ⟨n1, n2, n3, n4, n5⟩ := hN x h3
      rcases (p.own x (.inl hx)).2.2 with (a3 | a3) | a3
      · exact n4 a3
      · exact n5 a3
      · omega
  · have e3 : ((insAt (R'.map (·.1)) b'.1 k).map (eVip true)) = ((insAt R' b' k).map (·.1)).map (eVip true) := by simp [insAt, List.map_take, List.map_drop]
    simp only [ObRepL, ObRep, OwT]
    rw [e3]
    have hlen3 : (((insAt R' b' k).map (·.1)).map (eVip true)).length = ((insAt R' b' k).map eRV).length := by simp
    refine ⟨_, [], fun x => x = bb ∨ (S1 x ∧ x ≠ bb), fun _ => False, rfl, fun x hx => ⟨hx, id⟩, fun _ h => h.elim, ⟨_, cap, by rw [hlen3, hlen2], by rw [hlen3]; exact hc', hm, .inr ⟨bb, cur2, el2, rfl, .inl rfl, hbb2, hsz2, ?_⟩⟩, rfl⟩
    rw [hlen3]
    exact OwRows.sub (fun x hx => ⟨.inr hx, hx.2⟩) (OwN.back hrow2 hq)
theorem fst_RV (xs : List RVp) (i : Nat) : (xs.map (·.1)).getD i zVip = (xs.getD i zRV).1 := by
  simp only [List.getD_eq_getElem?_getD, List.getElem?_map]
  cases xs[i]? <;> rfl
end Go.H
end
section
set_option linter.unusedVariables false
namespace Go.H
open Go Go.Proofs.Tryz
noncomputable def tbl : Nat → Bool → List T
  | 2, _ => dI_i64
  | 3, _ => dI_i64
  | 25, b => dConfig b
  | 27, _ => dCmd
  | 32, b => dConfig b
  | 34, b => dConfigResult b
  | 37, _ => dCmd
  | 48, b => dUpdate b
  | 50, b => dUpdateResult b
  | 62, b => dConfigsResult b
  | 73, b => dMachine b
  | 75, b => dMachineResult b
  | 81, b => dMachine b
  | 83, _ => dEntry
  | 88, _ => dEntry
  | 94, b => dWatch b
  | 96, b => dUpdate b
  | 100, b => dWatch b
  | 102, b => dWatchResult b
  | 158, b => dVip b
  | 162, _ => dBackend
  | 170, _ => dBackend
  | 171, b => dVip b
  | 183, _ => dSession
  | 188, _ => dSession
  | 232, _ => dI_i64
  | 90001, _ => dRV
  | _, _ => []
theorem tb2 (b : Bool) : tbl 2 b = dI_i64 := rfl
theorem tb3 (b : Bool) : tbl 3 b = dI_i64 := rfl
theorem tb25 (b : Bool) : tbl 25 b = dConfig b := rfl
theorem tb27 (b : Bool) : tbl 27 b = dCmd := rfl
theorem tb32 (b : Bool) : tbl 32 b = dConfig b := rfl
theorem tb34 (b : Bool) : tbl 34 b = dConfigResult b := rfl
theorem tb37 (b : Bool) : tbl 37 b = dCmd := rfl
theorem tb48 (b : Bool) : tbl 48 b = dUpdate b := rfl
theorem tb50 (b : Bool) : tbl 50 b = dUpdateResult b := rfl
theorem tb62 (b : Bool) : tbl 62 b = dConfigsResult b := rfl
theorem tb73 (b : Bool) : tbl 73 b = dMachine b := rfl
theorem tb75 (b : Bool) : tbl 75 b = dMachineResult b := rfl
theorem tb81 (b : Bool) : tbl 81 b = dMachine b := rfl
theorem tb83 (b : Bool) : tbl 83 b = dEntry := rfl
theorem tb88 (b : Bool) : tbl 88 b = dEntry := rfl
theorem tb94 (b : Bool) : tbl 94 b = dWatch b := rfl
theorem tb96 (b : Bool) : tbl 96 b = dUpdate b := rfl
theorem tb100 (b : Bool) : tbl 100 b = dWatch b := rfl
theorem tb102 (b : Bool) : tbl 102 b = dWatchResult b := rfl
theorem tb158 (b : Bool) : tbl 158 b = dVip b := rfl
theorem tb162 (b : Bool) : tbl 162 b = dBackend := rfl
theorem tb170 (b : Bool) : tbl 170 b = dBackend := rfl
theorem tb171 (b : Bool) : tbl 171 b = dVip b := rfl
theorem tb183 (b : Bool) : tbl 183 b = dSession := rfl
theorem tb188 (b : Bool) : tbl 188 b = dSession := rfl
theorem tb232 (b : Bool) : tbl 232 b = dI_i64 := rfl
theorem tb90001 (b : Bool) : tbl 90001 b = dRV := rfl
noncomputable def tr0 : List TypeInfo := [t0, t1, t2, t3, t4, t5, t6, t7, t8, t9, t10, t11, t12, t13, t14, t15]
noncomputable def tr1 : List TypeInfo := [t16, t17, t18, t19, t20, t21, t22, t23, t24, t25, t26, t27, t28, t29, t30, t31]
noncomputable def tr2 : List TypeInfo := [t32, t33, t34, t35, t36, t37, t38, t39, t40, t41, t42, t43, t44, t45, t46, t47]
noncomputable def tr3 : List TypeInfo := [t48, t49, t50, t51, t52, t53, t54, t55, t56, t57, t58, t59, t60, t61, t62, t63]
noncomputable def tr4 : List TypeInfo := [t64, t65, t66, t67, t68, t69, t70, t71, t72, t73, t74, t75, t76, t77, t78, t79]
noncomputable def tr5 : List TypeInfo := [t80, t81, t82, t83, t84, t85, t86, t87, t88, t89, t90, t91, t92, t93, t94, t95]
noncomputable def tr6 : List TypeInfo := [t96, t97, t98, t99, t100, t101, t102, t103, t104, t105, t106, t107, t108, t109, t110, t111]
noncomputable def tr7 : List TypeInfo := [t112, t113, t114, t115, t116, t117, t118, t119, t120, t121, t122, t123, t124, t125, t126, t127]
noncomputable def tr8 : List TypeInfo := [t128, t129, t130, t131, t132, t133, t134, t135, t136, t137, t138, t139, t140, t141, t142, t143]
noncomputable def tr9 : List TypeInfo := [t144, t145, t146, t147, t148, t149, t150, t151, t152, t153, t154, t155, t156, t157, t158, t159]
noncomputable def tr10 : List TypeInfo := [t160, t161, t162, t163, t164, t165, t166, t167, t168, t169, t170, t171, t172, t173, t174, t175]
noncomputable def tr11 : List TypeInfo := [t176, t177, t178, t179, t180, t181, t182, t183, t184, t185, t186, t187, t188, t189, t190, t191]
noncomputable def tr12 : List TypeInfo := [t192, t193, t194, t195, t196, t197, t198, t199, t200, t201, t202, t203, t204, t205, t206, t207]
noncomputable def tr13 : List TypeInfo := [t208, t209, t210, t211, t212, t213, t214, t215, t216, t217, t218, t219, t220, t221, t222, t223]
noncomputable def tr14 : List TypeInfo := [t224, t225, t226, t227, t228, t229, t230, t231, t232, t233, t234, t235, t236, t237, t238, t239]
noncomputable def tr15 : List TypeInfo := [t240, t241, t242, t243, t244, t245, t246, t247, t248, t249, t250, t251, t252, t253, t254, t255]
noncomputable def tr16 : List TypeInfo := [t256, t257, t258, t259, t260, t261, t262, t263, t264, t265, t266, t267, t268, t269, t270, t271]
noncomputable def tr17 : List TypeInfo := [t272, t273, t274, t275, t276, t277, t278, t279]
noncomputable def tys (t : Nat) : Option TypeInfo := tyG [tr0, tr1, tr2, tr3, tr4, tr5, tr6, tr7, tr8, tr9, tr10, tr11, tr12, tr13, tr14, tr15, tr16, tr17] t
theorem goF [Inv prog] {fn : Func} {f : FuncId} {av : List Arg} {L : List Ob} {rs : List TV} {L' : List Ob} {c : (Nat → Bool → List T) → SC} {c' : SC} {rvs : List RV} (hs : List (Nat × Hn)) (dr : List (Nat × Nat × List Nat × List Nat)) (dp : List (Nat × List Nat)) (hf : prog.funcs[f]? = some fn)
    (k : CW prog c' (endX rvs L rs L') (initS av L)) (hc : ∀ tb, genF tys fn tb hs dr dp = c tb := by intro tb; cbv) (hcc : c tbl = c' := by first | (dsimp only [tb2, tb3, tb25, tb27, tb32, tb34, tb37, tb48, tb50, tb62, tb73, tb75, tb81, tb83, tb88, tb94, tb96, tb100, tb102, tb158, tb162, tb170, tb171, tb183, tb188, tb232, tb90001] <;> exact rfl) | exact rfl) (hk : OkG prog fn (genF tys fn tbl hs dr dp) := by exact ⟨_, rfl, by kernel_rfl, by kernel_rfl⟩)
    (h0 : cmpR prog fn.results.toList = some (rvG tys fn.results.toList) := by kernel_rfl) (hr : rvG tys fn.results.toList = rvs := by cbv) (hn : Nat.ble av.length fn.ntmps = true := by kernel_rfl) (has : Nat.ble av.length 199 = true := by rfl)
    (hok : ∀ o ∈ L, obOk o := by first | (simp; done) | (simp [obOk]; done) | (simp [obOk, go_sem]; done)) (hok2 : ∀ a ∈ av, argOk a := by first | (simp [argOk, aT, aI, aS]; done) | (simp [argOk, go_sem]; done)) : SemX prog f av L rs L' := by
  obtain ⟨cc, g1, g2, g3⟩ := hk
  subst hcc
  subst hr
  rw [hc tbl] at g2 g3
  exact SemX.of_code hf g1 g2 g3 h0 (Nat.le_of_ble_eq_true hn) (Nat.lt_succ_of_le (Nat.le_of_ble_eq_true has)) hok hok2 k
theorem goFC [Inv prog] {fn : Func} {f : FuncId} {av : List Arg} {L : List Ob} {rs : List TV} {L' : List Ob} {c : (Nat → Bool → List T) → SC} {c' : SC} {rvs : List RV} (k0 : Nat) {A : Arr} (hs : List (Nat × Hn)) (dr : List (Nat × Nat × List Nat × List Nat)) (dp : List (Nat × List Nat)) (hf : prog.funcs[f]? = some fn)
    (k : ∀ cp, A.rows.length ≤ cp → cp ≤ 9223372036854775807 → CW prog c' (endX rvs L rs L') ((initS av L).full k0 cp)) (hk0 : look k0 (initS av L).ms = some (.arr A) := by exact rfl) (hc : ∀ tb, genF tys fn tb hs dr dp = c tb := by intro tb; cbv) (hcc : c tbl = c' := by first | (dsimp only [tb2, tb3, tb25, tb27, tb32, tb34, tb37, tb48, tb50, tb62, tb73, tb75, tb81, tb83, tb88, tb94, tb96, tb100, tb102, tb158, tb162, tb170, tb171, tb183, tb188, tb232, tb90001] <;> exact rfl) | exact rfl) (hk : OkG prog fn (genF tys fn tbl hs dr dp) := by exact ⟨_, rfl, by kernel_rfl, by kernel_rfl⟩)
    (h0 : cmpR prog fn.results.toList = some (rvG tys fn.results.toList) := by kernel_rfl) (hr : rvG tys fn.results.toList = rvs := by cbv) (hn : Nat.ble av.length fn.ntmps = true := by kernel_rfl) (has : Nat.ble av.length 199 = true := by rfl)
    (hok : ∀ o ∈ L, obOk o := by first | (simp; done) | (simp [obOk]; done) | (simp [obOk, go_sem]; done)) (hok2 : ∀ a ∈ av, argOk a := by first | (simp [argOk, aT, aI, aS]; done) | (simp [argOk, go_sem]; done)) : SemX prog f av L rs L' := by
  obtain ⟨cc, g1, g2, g3⟩ := hk
  subst hcc
  subst hr
  rw [hc tbl] at g2 g3
  exact SemX.of_codeC k0 hf g1 g2 g3 h0 (Nat.le_of_ble_eq_true hn) (Nat.lt_succ_of_le (Nat.le_of_ble_eq_true has)) hok hok2 hk0 k
end Go.H
end
section
set_option maxRecDepth 100000
set_option maxHeartbeats 4000000
set_option cbv.maxSteps 4000000
set_option linter.unusedVariables false
set_option linter.unusedSimpArgs false
namespace Go.H
open Go Go.Proofs.Tryz
variable [Inv prog]
theorem s_laws_szBackendS (rows : List (List T)) (l : Int) (h0 : -1 ≤ l) (h1 : l ≤ 1048576) (hl : rows.length ≤ 9223372036854775807) : SemX prog 69 [aT (.sl false 5 rows), aI l] [] [rI (szL rows.length l)] [] := by
 refine goF [] [] [] func69 ?_
 refine D ?_
 refine cC (fun c0 => ?_) (fun c0 => ?_)
 · skip
   refine D ?_
   refine E ?_
   first
   | exact trivial
   | simp [szL, *]
 · skip
   refine D ?_
   refine E ?_
   first
   | exact trivial
   | simp [szL, *]
end Go.H
end
section
set_option maxRecDepth 100000
set_option maxHeartbeats 4000000
set_option cbv.maxSteps 4000000
set_option linter.unusedVariables false
set_option linter.unusedSimpArgs false
namespace Go.H
open Go Go.Proofs.Tryz
variable [Inv prog]
theorem s_laws_szInt64S (rows : List (List T)) (l : Int) (h0 : -1 ≤ l) (h1 : l ≤ 1048576) (hl : rows.length ≤ 9223372036854775807) : SemX prog 165 [aT (.sl false 1 rows), aI l] [] [rI (szL rows.length l)] [] := by
 refine goF [] [] [] func165 ?_
 refine D ?_
 refine cC (fun c0 => ?_) (fun c0 => ?_)
 · skip
   refine D ?_
   refine E ?_
   first
   | exact trivial
   | simp [szL, *]
 · skip
   refine D ?_
   refine E ?_
   first
   | exact trivial
   | simp [szL, *]
end Go.H
end
section
set_option maxRecDepth 100000
set_option maxHeartbeats 4000000
set_option cbv.maxSteps 4000000
set_option linter.unusedVariables false
set_option linter.unusedSimpArgs false
namespace Go.H
open Go Go.Proofs.Tryz
variable [Inv prog]
theorem s_laws_szVip (x : Vip) (l : Int) (h0 : -1 ≤ l) (h1 : l ≤ 1048576) (hx : x.names.length ≤ 9223372036854775807) : SemX prog 116 [aS (eVip false x), aI l] [] [rI (szVip x l)] [] := by
 refine goF [] [] [] func116 ?_
 refine D ?_
 refine kR (s_laws_szInt64S (x.names.map eI_i64) (l) h0 h1 (by simp only [List.length_map]; omega)) ?_
 refine D ?_
 refine cC (fun c0 => ?_) (fun c0 => ?_)
 · skip
   refine D ?_
   refine E ?_
   first
   | exact trivial
   | simp [szVip, szT, *]
 · skip
   refine D ?_
   refine E ?_
   first
   | exact trivial
   | simp [szVip, szT, *]
end Go.H
end
section
set_option maxRecDepth 100000
set_option maxHeartbeats 4000000
set_option cbv.maxSteps 4000000
set_option linter.unusedVariables false
set_option linter.unusedSimpArgs false
namespace Go.H
open Go Go.Proofs.Tryz
variable [Inv prog]
theorem s_laws_szVipS (xs : List Vip) (l : Int) (h0 : -1 ≤ l) (h1 : l ≤ 1048576) (hl : xs.length ≤ 9223372036854775807) (hm : ∀ i < xs.length, (xs.getD i zVip).names.length ≤ 9223372036854775807) : SemX prog 70 [aT (.sl false 4 (xs.map (eVip false))), aI l] [] [rI (szVs xs l)] [] := by
 refine goF [] [] [] func70 ?_
 refine D ?_
 refine cC (fun c0 => ?_) (fun c0 => ?_)
 · skip
   refine D ?_
   refine E ?_
   simp [szVs, szL, szT, *]
 · skip
   refine D ?_
   refine L (α := (Nat × Int)) (fun x => [(1, .int .i64 x.2), (5, .int .i64 x.1)]) (fun x => []) (fun x => xs.length - x.1) (fun x => x.1 ≤ xs.length ∧ -1 ≤ x.2 ∧ x.2 ≤ 1048576 ∧ szVips xs (szL xs.length l) = szVips (xs.drop x.1) x.2) (0, szL xs.length l) [] (fun x0 hL => ?_) (by simp only [go_sem] <;> and_intros <;> first | with_reducible exact rfl | (first | omega | (simp [szL, *]; done))) (by refine ⟨Nat.zero_le _, szL_lo _ _, szL_hi h1 (by omega), rfl⟩)
   obtain ⟨i, m⟩ := x0
   obtain ⟨hi, hm1, hm2, he⟩ := hL
   try dsimp only at *
   refine D ?_
   refine cC (fun c1 => ?_) (fun c1 => ?_)
   · skip
     refine D ?_
     refine kR (s_laws_szVip (xs.getD i zVip) m hm1 hm2 (hm i (by omega))) ?_
     refine D ?_
     refine cC (fun c2 => ?_) (fun c2 => ?_)
     · skip
       refine D ?_
       refine E ?_
       have := szL_lo xs.length l
       rw [szVs, szT, if_neg (by unfold szL; split <;> omega), he, drop_getD zVip (by omega)]
       simp [szVips, szT, *, -List.getD_eq_getElem?_getD]
     · skip
       refine D ?_
       refine lp_next (i + 1, szVip (xs.getD i zVip) m) [] ?_ ?_ ?_
       · simp only [go_sem] <;> and_intros <;> first | with_reducible exact rfl | (first | omega | (simp [szL, *]; done))
       · refine ⟨by omega, (szVip_lo _ _ hm2).1, (szVip_lo _ _ hm2).2, ?_⟩
         rw [he, drop_getD zVip (by omega)]
         simp [szVips, szT, *, -List.getD_eq_getElem?_getD]
       · try dsimp only
         omega
   · skip
     obtain rfl : i = xs.length := by omega
     refine D ?_
     refine E ?_
     first
     | exact trivial
     | rw [szVs, szT, if_neg (by unfold szL; split <;> omega), he]
       simp [szVips]
end Go.H
end
section
set_option maxRecDepth 100000
set_option maxHeartbeats 4000000
set_option cbv.maxSteps 4000000
set_option linter.unusedVariables false
set_option linter.unusedSimpArgs false
namespace Go.H
open Go Go.Proofs.Tryz
variable [Inv prog]
theorem s_laws_szConfig (x : Config) (l : Int) (h0 : -1 ≤ l) (h1 : l ≤ 1048576) (hb : x.backends.length ≤ 9223372036854775807) (hv : x.vips.length ≤ 9223372036854775807) (hV : ∀ i < x.vips.length, (x.vips.getD i zVip).names.length ≤ 9223372036854775807) : SemX prog 10 [aS (eConfig false x), aI l] [] [rI (szConfig x l)] [] := by
 refine goF [] [] [] func10 ?_
 refine D ?_
 refine kR (s_laws_szBackendS (x.backends.map eBackend) l h0 h1 (by simp only [List.length_map]; omega)) ?_
 refine D ?_
 refine cC (fun c0 => ?_) (fun c0 => ?_)
 · skip
   refine D ?_
   refine E ?_
   first
   | exact trivial
   | simp [szConfig, szT, *]
 · skip
   refine D ?_
   refine kR (s_laws_szVipS x.vips (szL x.backends.length l) (szL_lo _ _) (szL_hi h1 (by omega)) hv hV) ?_
   refine D ?_
   refine cC (fun c1 => ?_) (fun c1 => ?_)
   · skip
     refine D ?_
     refine E ?_
     first
     | exact trivial
     | simp [szConfig, szT, *]
   · skip
     refine D ?_
     refine E ?_
     first
     | exact trivial
     | simp [szConfig, szT, *]
end Go.H
end
section
set_option maxRecDepth 100000
set_option maxHeartbeats 4000000
set_option cbv.maxSteps 4000000
set_option linter.unusedVariables false
set_option linter.unusedSimpArgs false
namespace Go.H
open Go Go.Proofs.Tryz
variable [Inv prog]
theorem s_laws_toBackend (x : Backend) : SemX prog 128 [aS (eBackend x)] [] [.agg (eBackend x)] [] := by
 refine goF [] [] [] func128 ?_
 refine D ?_
 exact E trivial
end Go.H
end
section
set_option maxRecDepth 100000
set_option maxHeartbeats 4000000
set_option cbv.maxSteps 4000000
set_option linter.unusedVariables false
set_option linter.unusedSimpArgs false
namespace Go.H
open Go Go.Proofs.Tryz
variable [Inv prog]
theorem s_laws_toBackendS (xs : List Backend) (hl : xs.length ≤ 2097152)  : SemX prog 74 [aT (.sl false 5 (xs.map eBackend))] [] [.one (.sl true 5 (xs.map eBackend))] [] := by
 refine goF [] [] [] func74 ?_
 refine D ?_
 refine L (α := Nat) (fun x => [(4, .int .i64 x)]) (fun x => [(32768, .arr ⟨5, (xs.take x).map eBackend ++ List.replicate (xs.length - x) dBackend, x + 1, none⟩)]) (fun x => xs.length - x) (fun x => x ≤ xs.length) 0 [] (fun x hI => ?_) (by simp only [go_sem] <;> and_intros <;> first | with_reducible exact rfl | (first | omega | (simp [dBackend, eBackend, zBackend, zCmd, zEntry]; done)))
 refine D ?_
 refine cC (fun c0 => ?_) (fun c0 => ?_)
 · skip
   have hg := getD_bld (l := (xs.take x).map eBackend) (n := xs.length - x) (d := dBackend) (i := x) (by simp; omega)
   have hA := hg
   refine D ?_
   refine kR (s_laws_toBackend (xs.getD x zBackend)) ?_
   refine D ?_
   refine lp_next (x+1) [] ?_ ?_ ?_
   · simp only [go_sem, hA] <;> and_intros <;> first | with_reducible exact rfl | (first | omega | (rw [← bld_step eBackend zBackend dBackend (by omega)]; simp only [eBackend]))
   · omega
   · omega
 · skip
   obtain rfl : x = xs.length := by omega
   refine D ?_
   exact E trivial
end Go.H
end
section
set_option maxRecDepth 100000
set_option maxHeartbeats 4000000
set_option cbv.maxSteps 4000000
set_option linter.unusedVariables false
set_option linter.unusedSimpArgs false
namespace Go.H
open Go Go.Proofs.Tryz
variable [Inv prog]
theorem s_laws_toInt64S (xs : List Int) (hl : xs.length ≤ 2097152)  : SemX prog 173 [aT (.sl false 1 (xs.map eI_i64))] [] [.one (.sl true 1 (xs.map eI_i64))] [] := by
 refine goF [] [] [] func173 ?_
 refine D ?_
 refine L (α := Nat) (fun x => [(4, .int .i64 x)]) (fun x => [(32768, .arr ⟨1, (xs.take x).map eI_i64 ++ List.replicate (xs.length - x) dI_i64, x + 1, none⟩)]) (fun x => xs.length - x) (fun x => x ≤ xs.length) 0 [] (fun x hI => ?_) (by simp only [go_sem] <;> and_intros <;> first | with_reducible exact rfl | (first | omega | (simp [dI_i64, eI_i64, zI_i64, zCmd, zEntry]; done)))
 refine D ?_
 refine cC (fun c0 => ?_) (fun c0 => ?_)
 · skip
   have hg := getD_bld (l := (xs.take x).map eI_i64) (n := xs.length - x) (d := dI_i64) (i := x) (by simp; omega)
   have hA := hg
   refine D ?_
   refine lp_next (x+1) [] ?_ ?_ ?_
   · simp only [go_sem, hA] <;> and_intros <;> first | with_reducible exact rfl | (first | omega | (rw [← bld_step eI_i64 zI_i64 dI_i64 (by omega)]; simp only [eI_i64]))
   · omega
   · omega
 · skip
   obtain rfl : x = xs.length := by omega
   refine D ?_
   exact E trivial
end Go.H
end
section
set_option maxRecDepth 100000
set_option maxHeartbeats 4000000
set_option cbv.maxSteps 4000000
set_option linter.unusedVariables false
set_option linter.unusedSimpArgs false
namespace Go.H
open Go Go.Proofs.Tryz
variable [Inv prog]
theorem s_laws_toVip (x : Vip) (hx : limV 2097152 x) : SemX prog 129 [aS (eVip false x)] [] [.agg (eVip true x)] [] := by
 refine goF [] [] [] func129 ?_
 refine D ?_
 refine kR (s_laws_toInt64S x.names hx) ?_
 refine D ?_
 exact E trivial
end Go.H
end
section
set_option maxRecDepth 100000
set_option maxHeartbeats 4000000
set_option cbv.maxSteps 4000000
set_option linter.unusedVariables false
set_option linter.unusedSimpArgs false
namespace Go.H
open Go Go.Proofs.Tryz
variable [Inv prog]
theorem s_laws_toVipS (xs : List Vip) (hl : xs.length ≤ 2097152) (hm : ∀ y ∈ xs, limV 2097152 y) : SemX prog 75 [aT (.sl false 4 (xs.map (eVip false)))] [] [.one (.sl true 4 (xs.map (eVip true)))] [] := by
 refine goF [] [] [] func75 ?_
 refine D ?_
 refine L (α := Nat) (fun x => [(4, .int .i64 x)]) (fun x => [(32768, .arr ⟨4, (xs.take x).map (eVip true) ++ List.replicate (xs.length - x) (dVip true), x + 1, none⟩)]) (fun x => xs.length - x) (fun x => x ≤ xs.length) 0 [] (fun x hI => ?_) (by simp only [go_sem] <;> and_intros <;> first | with_reducible exact rfl | (first | omega | (simp [dVip, eVip, zVip, zCmd, zEntry]; done)))
 refine D ?_
 refine cC (fun c0 => ?_) (fun c0 => ?_)
 · skip
   have hg := getD_bld (l := (xs.take x).map (eVip true)) (n := xs.length - x) (d := (dVip true)) (i := x) (by simp; omega)
   have hA := hg
   refine D ?_
   refine kR (s_laws_toVip (xs.getD x zVip) ((all_getD zVip).2 hm x (by omega))) ?_
   refine D ?_
   refine lp_next (x+1) [] ?_ ?_ ?_
   · simp only [go_sem, hA] <;> and_intros <;> first | with_reducible exact rfl | (first | omega | (rw [← bld_step (eVip true) zVip (dVip true) (by omega)]; simp only [eVip]))
   · omega
   · omega
 · skip
   obtain rfl : x = xs.length := by omega
   refine D ?_
   exact E trivial
end Go.H
end
section
set_option maxRecDepth 100000
set_option maxHeartbeats 4000000
set_option cbv.maxSteps 4000000
set_option linter.unusedVariables false
set_option linter.unusedSimpArgs false
namespace Go.H
open Go Go.Proofs.Tryz
variable [Inv prog]
theorem s_laws_toConfig (x : Config) (hx : limG 2097152 x) : SemX prog 12 [aS (eConfig false x)] [] [.agg (eConfig true x)] [] := by
 refine goF [] [] [] func12 ?_
 refine D ?_
 refine kR (s_laws_toBackendS x.backends hx.1) ?_
 refine D ?_
 refine kR (s_laws_toVipS x.vips hx.2.1 hx.2.2) ?_
 refine D ?_
 exact E trivial
end Go.H
end
section
set_option maxRecDepth 100000
set_option maxHeartbeats 4000000
set_option cbv.maxSteps 4000000
set_option linter.unusedVariables false
set_option linter.unusedSimpArgs false
namespace Go.H
open Go Go.Proofs.Tryz
variable [Inv prog]
theorem s_laws_eqBackend (x : Backend) : SemX prog 143 [aS (eBackend x), aS (eBackend x)] [] [rB true] [] := by
 refine goF [] [] [] func143 ?_
 refine D ?_
 refine cF ?_
 refine D ?_
 refine cF ?_
 refine D ?_
 refine cF ?_
 refine D ?_
 refine cF ?_
 refine D ?_
 refine cF ?_
 refine D ?_
 exact E trivial
end Go.H
end
section
set_option maxRecDepth 100000
set_option maxHeartbeats 4000000
set_option cbv.maxSteps 4000000
set_option linter.unusedVariables false
set_option linter.unusedSimpArgs false
namespace Go.H
open Go Go.Proofs.Tryz
variable [Inv prog]
theorem s_laws_eqBackendS (xs : List Backend) (hl : xs.length ≤ 2097152)  : SemX prog 79 [aT (.sl false 5 (xs.map eBackend)), aT (.sl false 5 (xs.map eBackend))] [] [rB true] [] := by
 refine goF [] [] [] func79 ?_
 refine D ?_
 refine cF ?_
 refine D ?_
 refine L (α := Nat) (fun x => [(5, .int .i64 x)]) (fun x => []) (fun x => xs.length - x) (fun x => x ≤ xs.length) 0 [] (fun x hI => ?_)
 refine D ?_
 refine cC (fun c1 => ?_) (fun c1 => ?_)
 · skip
   refine D ?_
   refine kD (s_laws_eqBackend (xs.getD x zBackend)) ?_
   refine D ?_
   refine cF ?_
   refine D ?_
   exact N (x+1) []
 · skip
   refine D ?_
   exact E trivial
end Go.H
end
section
set_option maxRecDepth 100000
set_option maxHeartbeats 4000000
set_option cbv.maxSteps 4000000
set_option linter.unusedVariables false
set_option linter.unusedSimpArgs false
namespace Go.H
open Go Go.Proofs.Tryz
variable [Inv prog]
theorem s_laws_eqInt64S (xs : List Int) (hl : xs.length ≤ 2097152)  : SemX prog 186 [aT (.sl false 1 (xs.map eI_i64)), aT (.sl false 1 (xs.map eI_i64))] [] [rB true] [] := by
 refine goF [] [] [] func186 ?_
 refine D ?_
 refine cF ?_
 refine D ?_
 refine L (α := Nat) (fun x => [(5, .int .i64 x)]) (fun x => []) (fun x => xs.length - x) (fun x => x ≤ xs.length) 0 [] (fun x hI => ?_)
 refine D ?_
 refine cC (fun c1 => ?_) (fun c1 => ?_)
 · skip
   refine D ?_
   refine cF ?_
   refine D ?_
   exact N (x+1) []
 · skip
   refine D ?_
   exact E trivial
end Go.H
end
section
set_option maxRecDepth 100000
set_option maxHeartbeats 4000000
set_option cbv.maxSteps 4000000
set_option linter.unusedVariables false
set_option linter.unusedSimpArgs false
namespace Go.H
open Go Go.Proofs.Tryz
variable [Inv prog]
theorem s_laws_eqVip (x : Vip) (hx : limV 2097152 x) : SemX prog 144 [aS (eVip false x), aS (eVip false x)] [] [rB true] [] := by
 refine goF [] [] [] func144 ?_
 refine D ?_
 refine cF ?_
 refine D ?_
 refine cF ?_
 refine D ?_
 refine cF ?_
 refine D ?_
 refine kR (s_laws_eqInt64S x.names hx) ?_
 refine D ?_
 refine cF ?_
 refine D ?_
 exact E trivial
end Go.H
end
section
set_option maxRecDepth 100000
set_option maxHeartbeats 4000000
set_option cbv.maxSteps 4000000
set_option linter.unusedVariables false
set_option linter.unusedSimpArgs false
namespace Go.H
open Go Go.Proofs.Tryz
variable [Inv prog]
theorem s_laws_eqVipS (xs : List Vip) (hl : xs.length ≤ 2097152) (hm : ∀ y ∈ xs, limV 2097152 y) : SemX prog 80 [aT (.sl false 4 (xs.map (eVip false))), aT (.sl false 4 (xs.map (eVip false)))] [] [rB true] [] := by
 refine goF [] [] [] func80 ?_
 refine D ?_
 refine cF ?_
 refine D ?_
 refine L (α := Nat) (fun x => [(5, .int .i64 x)]) (fun x => []) (fun x => xs.length - x) (fun x => x ≤ xs.length) 0 [] (fun x hI => ?_)
 refine D ?_
 refine cC (fun c1 => ?_) (fun c1 => ?_)
 · skip
   refine D ?_
   refine kD (s_laws_eqVip (xs.getD x zVip) ((all_getD zVip).2 hm x (by omega))) ?_
   refine D ?_
   refine cF ?_
   refine D ?_
   exact N (x+1) []
 · skip
   refine D ?_
   exact E trivial
end Go.H
end
section
set_option maxRecDepth 100000
set_option maxHeartbeats 4000000
set_option cbv.maxSteps 4000000
set_option linter.unusedVariables false
set_option linter.unusedSimpArgs false
namespace Go.H
open Go Go.Proofs.Tryz
variable [Inv prog]
theorem s_laws_eqConfig (x : Config) (hx : limG 2097152 x) : SemX prog 16 [aS (eConfig false x), aS (eConfig false x)] [] [rB true] [] := by
 refine goF [] [] [] func16 ?_
 refine D ?_
 refine cF ?_
 refine D ?_
 refine kR (s_laws_eqBackendS x.backends hx.1) ?_
 refine D ?_
 refine cF ?_
 refine D ?_
 refine kR (s_laws_eqVipS x.vips hx.2.1 hx.2.2) ?_
 refine D ?_
 refine cF ?_
 refine D ?_
 exact E trivial
end Go.H
end
section
set_option maxRecDepth 100000
set_option maxHeartbeats 4000000
set_option cbv.maxSteps 4000000
set_option linter.unusedVariables false
set_option linter.unusedSimpArgs false
namespace Go.H
open Go Go.Proofs.Tryz
variable [Inv prog]
section
attribute [local go_sem] List.set_set mkL_length
theorem s_laws_markBackendS (xs : List Backend) (k : Int) (hk : 0 ≤ k) (hl : xs.length ≤ 2097152) (hb : mkK sB xs k ≤ 9000000000000000000) : SemX prog 81 [.one (.arr 0), aI k] [.arr 5 (xs.map eBackend)] [rI (mkK sB xs k)] [.arr 5 ((mkL mB sB xs k).map eBackend)] := by
 refine goF [] [] [] func81 ?_
 refine D ?_
 refine L (α := Nat) (fun x => [(1, .int .i64 (mkK sB (xs.take x) k)), (5, .int .i64 x)]) (fun x => [(1000000, .arr ⟨5, (mkL mB sB (xs.take x) k ++ xs.drop x).map eBackend, 1 + 5 * x, none⟩)]) (fun x => xs.length - x) (fun x => x ≤ xs.length) 0 [] (fun x hI => ?_) (by simp only [go_sem] <;> and_intros <;> first | with_reducible exact rfl | (first | omega | (simp [mkL, mkK]; done)))
 refine D ?_
 refine cC (fun c0 => ?_) (fun c0 => ?_)
 · skip
   have hat := mkK_at sB_up zBackend (xs := xs) (i := x) (by omega) hb
   simp only [sB] at hat
   have hg : ∀ r, (((mkL mB sB (xs.take x) k ++ xs.drop x).map eBackend).set x r).getD x dBackend = r := fun r => getD_set_self (by simp [mkL_length]; omega) r _
   have hA := And.intro hg ((mk_getD mB sB zBackend k (show x < xs.length by omega)))
   refine D ?_
   refine lp_next (x+1) [] ?_ ?_ ?_
   · simp only [go_sem, hA] <;> and_intros <;> first | with_reducible exact rfl | (first | omega | (refine int_eq ?_; rw [mkK_succ sB zBackend (by omega)]; rfl) | (refine arr_eq ?_ (by omega); rw [← mk_step eBackend mB sB zBackend (by omega)]; simp only [eBackend, mB]))
   · omega
   · omega
 · skip
   obtain rfl : x = xs.length := by omega
   refine D ?_
   refine E ?_
   first
   | exact trivial
   | simp only [go_sem, List.drop_length, mkL_length]; done
   | try simp only [go_sem, List.drop_length, mkL_length]
     simp [mkL_length]
end
end Go.H
end
section
set_option maxRecDepth 100000
set_option maxHeartbeats 4000000
set_option cbv.maxSteps 4000000
set_option linter.unusedVariables false
set_option linter.unusedSimpArgs false
namespace Go.H
open Go Go.Proofs.Tryz
variable [Inv prog]
section
attribute [local go_sem] List.set_set mkL_length
theorem s_laws_markInt64S (xs : List Int) (k : Int) (hk : 0 ≤ k) (hl : xs.length ≤ 2097152) (hb : mkK sI xs k ≤ 9000000000000000000) : SemX prog 145 [.one (.arr 0), aI k] [.arr 1 (xs.map eI_i64)] [rI (mkK sI xs k)] [.arr 1 ((mkL mI sI xs k).map eI_i64)] := by
 refine goF [] [] [] func145 ?_
 refine D ?_
 refine L (α := Nat) (fun x => [(1, .int .i64 (mkK sI (xs.take x) k)), (5, .int .i64 x)]) (fun x => [(1000000, .arr ⟨1, (mkL mI sI (xs.take x) k ++ xs.drop x).map eI_i64, 1 + 1 * x, none⟩)]) (fun x => xs.length - x) (fun x => x ≤ xs.length) 0 [] (fun x hI => ?_) (by simp only [go_sem] <;> and_intros <;> first | with_reducible exact rfl | (first | omega | (simp [mkL, mkK]; done)))
 refine D ?_
 refine cC (fun c0 => ?_) (fun c0 => ?_)
 · skip
   have hat := mkK_at sI_up zI_i64 (xs := xs) (i := x) (by omega) hb
   simp only [sI] at hat
   have hg : ∀ r, (((mkL mI sI (xs.take x) k ++ xs.drop x).map eI_i64).set x r).getD x dI_i64 = r := fun r => getD_set_self (by simp [mkL_length]; omega) r _
   have hA := And.intro hg ((mk_getD mI sI zI_i64 k (show x < xs.length by omega)))
   refine D ?_
   refine lp_next (x+1) [] ?_ ?_ ?_
   · simp only [go_sem, hA] <;> and_intros <;> first | with_reducible exact rfl | (first | omega | (refine int_eq ?_; rw [mkK_succ sI zI_i64 (by omega)]; rfl) | (refine arr_eq ?_ (by omega); rw [← mk_step eI_i64 mI sI zI_i64 (by omega)]; simp only [eI_i64, mI]))
   · omega
   · omega
 · skip
   obtain rfl : x = xs.length := by omega
   refine D ?_
   refine E ?_
   first
   | exact trivial
   | simp only [go_sem, List.drop_length, mkL_length]; done
   | try simp only [go_sem, List.drop_length, mkL_length]
     simp [mkL_length]
end
end Go.H
end
section
set_option maxRecDepth 100000
set_option maxHeartbeats 4000000
set_option cbv.maxSteps 4000000
set_option linter.unusedVariables false
set_option linter.unusedSimpArgs false
namespace Go.H
open Go Go.Proofs.Tryz
variable [Inv prog]
section
attribute [local go_sem] List.set_set mkL_length
theorem s_laws_markVipS (xs : List Vip) (k : Int) (hk : 0 ≤ k) (hl : xs.length ≤ 2097152) (hb : mkK sV xs k ≤ 9000000000000000000) (hm : ∀ y ∈ xs, limV 2097152 y) : SemX prog 82 [.one (.arr 0), aI k] [.arr 4 (xs.map (eVip true))] [rI (mkK sV xs k)] [.arr 4 ((mkL mV sV xs k).map (eVip true))] := by
 refine goF [(76, ⟨some 3, some 155648, none, none⟩)] [] [] func82 ?_
 refine D ?_
 refine L (α := Nat) (fun x => [(1, .int .i64 (mkK sV (xs.take x) k)), (5, .int .i64 x)]) (fun x => [(1000000, .arr ⟨4, (mkL mV sV (xs.take x) k ++ xs.drop x).map (eVip true), 1 + 5 * x, none⟩)]) (fun x => xs.length - x) (fun x => x ≤ xs.length) 0 [] (fun x hI => ?_) (by simp only [go_sem] <;> and_intros <;> first | with_reducible exact rfl | (first | omega | (simp [mkL, mkK]; done)))
 refine D ?_
 refine cC (fun c0 => ?_) (fun c0 => ?_)
 · skip
   have hat := mkK_at sV_up zVip (xs := xs) (i := x) (by omega) hb
   simp only [sV] at hat
   have hg : ∀ r, (((mkL mV sV (xs.take x) k ++ xs.drop x).map (eVip true)).set x r).getD x (dVip true) = r := fun r => getD_set_self (by simp [mkL_length]; omega) r _
   have hup := Int.le_trans (mkK_mono sI_up _ _) hat.2
   have hA := And.intro hg ((mk_getD mV sV zVip k (show x < xs.length by omega)))
   refine D ?_
   refine RW_callBN 37 (dVip true) (by kernel_rfl) (s_laws_markInt64S (xs.getD x zVip).names _ (by omega) (hm _ (getD_mem zVip (by omega))) hat.2) true [155648] [] [] rfl rfl (by simp only [go_sem, hA] <;> and_intros <;> first | with_reducible exact rfl | omega | with_reducible trivial | (intros; simp_all; done) | grind) (by exact rfl) (by simp only [go_sem, hA] <;> and_intros <;> first | with_reducible exact rfl | omega | with_reducible trivial | (intros; simp_all; done) | grind) (by first | rfl | (simp only [go_sem, hA]; done)) (by simp only [go_sem, hA]; exact rfl) ?_
   refine D ?_
   refine lp_next (x+1) [] ?_ ?_ ?_
   · simp only [go_sem, hA] <;> and_intros <;> first | with_reducible exact rfl | (first | omega | (refine int_eq ?_; rw [mkK_succ sV zVip (by omega)]; rfl) | (refine arr_eq ?_ (by omega); rw [← mk_step (eVip true) mV sV zVip (by omega)]; simp only [eVip, mV]))
   · omega
   · omega
 · skip
   obtain rfl : x = xs.length := by omega
   refine D ?_
   refine E ?_
   first
   | exact trivial
   | simp only [go_sem, List.drop_length, mkL_length]; done
   | try simp only [go_sem, List.drop_length, mkL_length]
     simp [mkL_length]
end
end Go.H
end
section
set_option maxRecDepth 100000
set_option maxHeartbeats 4000000
set_option cbv.maxSteps 4000000
set_option linter.unusedVariables false
set_option linter.unusedSimpArgs false
namespace Go.H
open Go Go.Proofs.Tryz
variable [Inv prog]
theorem s_laws_markConfig (x : Config) (hx : limG 2097152 x) (k : Int) (hk : 0 ≤ k) (hb : sG x k ≤ 9000000000000000000) : SemX prog 17 [.agg [.t (.int .i64 x.version), .arr 0, .arr 1], aI k] [.arr 5 (x.backends.map eBackend), .arr 4 (x.vips.map (eVip true))] [rI (sG x k)] [.arr 5 ((mG x k).backends.map eBackend), .arr 4 ((mG x k).vips.map (eVip true))] := by
 refine goF [] [] [] func17 ?_
 simp only [sG] at hb
 have u1 := Int.le_trans (mkK_mono sV_up _ _) hb
 have v1 := mkK_mono sB_up x.backends k
 have v2 := mkK_mono sV_up x.vips (mkK sB x.backends k)
 refine D ?_
 refine kRk [1000000] [] [] (s_laws_markBackendS x.backends k hk hx.1 u1) ?_
 refine D ?_
 refine kRk [1001000] [] [] (s_laws_markVipS x.vips _ (by omega) hx.2.1 hb hx.2.2) ?_
 refine D ?_
 refine E ?_
 first
 | exact trivial
 | simp only [go_sem, mG, sG, mkL_length]
end Go.H
end
section
set_option maxRecDepth 100000
set_option maxHeartbeats 4000000
set_option cbv.maxSteps 4000000
set_option linter.unusedVariables false
set_option linter.unusedSimpArgs false
namespace Go.H
open Go Go.Proofs.Tryz
variable [Inv prog]
section
attribute [local go_sem] mkL_length mB
theorem s_laws_heldBackendS (xs : List Backend) (k : Int) (hk : 0 ≤ k) (hl : xs.length ≤ 2097152) (hb : mkK sB xs k ≤ 9000000000000000000)  : SemX prog 146 [aT (.sl false 5 ((mkL mB sB xs k).map eBackend)), aI k] [] [rI (mkK sB xs k)] [] := by
 refine goF [] [] [] func146 ?_
 refine D ?_
 refine L (α := Nat) (fun x => [(1, .int .i64 (mkK sB (xs.take x) k)), (5, .int .i64 x)]) (fun x => []) (fun x => xs.length - x) (fun x => x ≤ xs.length) 0 [] (fun x hI => ?_) (by simp only [go_sem] <;> and_intros <;> first | with_reducible exact rfl | (first | omega | (simp [mkK]; done)))
 refine D ?_
 refine cC (fun c0 => ?_) (fun c0 => ?_)
 · skip
   have hat := mkK_at sB_up zBackend (xs := xs) (i := x) (by omega) hb
   simp only [sB] at hat
   have hg := mkL_getD mB sB zBackend k (show x < xs.length by omega)
   have hA := hg
   refine D ?_
   refine cF ?_
   refine D ?_
   refine cF ?_
   refine D ?_
   refine cF ?_
   refine D ?_
   refine cF ?_
   refine D ?_
   refine cF ?_
   refine D ?_
   refine lp_next (x+1) [] ?_ ?_ ?_
   · simp only [go_sem, hA] <;> and_intros <;> first | with_reducible exact rfl | (first | omega | (refine int_eq ?_; rw [mkK_succ sB zBackend (by omega)]; rfl))
   · omega
   · omega
 · skip
   obtain rfl : x = xs.length := by omega
   refine D ?_
   refine E ?_
   first
   | exact trivial
   | simp [mkL_length]
end
end Go.H
end
section
set_option maxRecDepth 100000
set_option maxHeartbeats 4000000
set_option cbv.maxSteps 4000000
set_option linter.unusedVariables false
set_option linter.unusedSimpArgs false
namespace Go.H
open Go Go.Proofs.Tryz
variable [Inv prog]
section
attribute [local go_sem] mkL_length mI
theorem s_laws_heldInt64S (xs : List Int) (k : Int) (hk : 0 ≤ k) (hl : xs.length ≤ 2097152) (hb : mkK sI xs k ≤ 9000000000000000000)  : SemX prog 187 [aT (.sl false 1 ((mkL mI sI xs k).map eI_i64)), aI k] [] [rI (mkK sI xs k)] [] := by
 refine goF [] [] [] func187 ?_
 refine D ?_
 refine L (α := Nat) (fun x => [(1, .int .i64 (mkK sI (xs.take x) k)), (5, .int .i64 x)]) (fun x => []) (fun x => xs.length - x) (fun x => x ≤ xs.length) 0 [] (fun x hI => ?_) (by simp only [go_sem] <;> and_intros <;> first | with_reducible exact rfl | (first | omega | (simp [mkK]; done)))
 refine D ?_
 refine cC (fun c0 => ?_) (fun c0 => ?_)
 · skip
   have hat := mkK_at sI_up zI_i64 (xs := xs) (i := x) (by omega) hb
   simp only [sI] at hat
   have hg := mkL_getD mI sI zI_i64 k (show x < xs.length by omega)
   have hA := hg
   refine D ?_
   refine cF ?_
   refine D ?_
   refine lp_next (x+1) [] ?_ ?_ ?_
   · simp only [go_sem, hA] <;> and_intros <;> first | with_reducible exact rfl | (first | omega | (refine int_eq ?_; rw [mkK_succ sI zI_i64 (by omega)]; rfl))
   · omega
   · omega
 · skip
   obtain rfl : x = xs.length := by omega
   refine D ?_
   refine E ?_
   first
   | exact trivial
   | simp [mkL_length]
end
end Go.H
end
section
set_option maxRecDepth 100000
set_option maxHeartbeats 4000000
set_option cbv.maxSteps 4000000
set_option linter.unusedVariables false
set_option linter.unusedSimpArgs false
namespace Go.H
open Go Go.Proofs.Tryz
variable [Inv prog]
section
attribute [local go_sem] mkL_length mV
theorem s_laws_heldVipS (xs : List Vip) (k : Int) (hk : 0 ≤ k) (hl : xs.length ≤ 2097152) (hb : mkK sV xs k ≤ 9000000000000000000) (hm : ∀ y ∈ xs, limV 2097152 y) : SemX prog 147 [aT (.sl false 4 ((mkL mV sV xs k).map (eVip false))), aI k] [] [rI (mkK sV xs k)] [] := by
 refine goF [] [] [] func147 ?_
 refine D ?_
 refine L (α := Nat) (fun x => [(1, .int .i64 (mkK sV (xs.take x) k)), (5, .int .i64 x)]) (fun x => []) (fun x => xs.length - x) (fun x => x ≤ xs.length) 0 [] (fun x hI => ?_) (by simp only [go_sem] <;> and_intros <;> first | with_reducible exact rfl | (first | omega | (simp [mkK]; done)))
 refine D ?_
 refine cC (fun c0 => ?_) (fun c0 => ?_)
 · skip
   have hat := mkK_at sV_up zVip (xs := xs) (i := x) (by omega) hb
   simp only [sV] at hat
   have hg := mkL_getD mV sV zVip k (show x < xs.length by omega)
   have hup := Int.le_trans (mkK_mono sI_up _ _) hat.2
   have v1 := mkK_mono sI_up (xs.getD x zVip).names (mkK sV (xs.take x) k + 1 + 1 + 1)
   have hA := hg
   refine D ?_
   refine cF ?_
   refine D ?_
   refine cF ?_
   refine D ?_
   refine cF ?_
   refine D ?_
   refine kR (s_laws_heldInt64S (xs.getD x zVip).names _ (by omega) (hm _ (getD_mem zVip (by omega))) hat.2) ?_
   refine D ?_
   refine cC (fun c4 => ?_) (fun c4 => ?_)
   · skip
     omega
   · skip
     refine D ?_
     refine lp_next (x+1) [] ?_ ?_ ?_
     · simp only [go_sem, hA] <;> and_intros <;> first | with_reducible exact rfl | (first | omega | (refine int_eq ?_; rw [mkK_succ sV zVip (by omega)]; rfl))
     · omega
     · omega
 · skip
   obtain rfl : x = xs.length := by omega
   refine D ?_
   refine E ?_
   first
   | exact trivial
   | simp [mkL_length]
end
end Go.H
end
section
set_option maxRecDepth 100000
set_option maxHeartbeats 4000000
set_option cbv.maxSteps 4000000
set_option linter.unusedVariables false
set_option linter.unusedSimpArgs false
namespace Go.H
open Go Go.Proofs.Tryz
variable [Inv prog]
section
attribute [local go_sem] mG
theorem s_laws_heldConfig (x : Config) (hx : limG 2097152 x) (k : Int) (hk : 0 ≤ k) (hb : sG x k ≤ 9000000000000000000) : SemX prog 83 [aS (eConfig false (mG x k)), aI k] [] [rI (sG x k)] [] := by
 refine goF [] [] [] func83 ?_
 simp only [sG] at hb
 have u1 := Int.le_trans (mkK_mono sV_up _ _) hb
 have v1 := mkK_mono sB_up x.backends k
 have v2 := mkK_mono sV_up x.vips (mkK sB x.backends k)
 refine D ?_
 refine kR (s_laws_heldBackendS x.backends k hk hx.1 u1) ?_
 refine D ?_
 refine cC (fun c0 => ?_) (fun c0 => ?_)
 · skip
   omega
 · skip
   refine D ?_
   refine kR (s_laws_heldVipS x.vips _ (by omega) hx.2.1 hb hx.2.2) ?_
   refine D ?_
   refine cC (fun c1 => ?_) (fun c1 => ?_)
   · skip
     omega
   · skip
     refine D ?_
     refine E ?_
     first
     | exact trivial
     | simp only [go_sem, sG]
end
end Go.H
end
section
set_option maxRecDepth 100000
set_option maxHeartbeats 4000000
set_option cbv.maxSteps 4000000
set_option linter.unusedVariables false
set_option linter.unusedSimpArgs false
namespace Go.H
open Go Go.Proofs.Tryz
variable [Inv prog]
theorem s_spec_l1In (a b c : Int) : SemX prog 120 [.one (.t (.int .i64 a)), .one (.t (.int .i64 b)), .one (.t (.int .i64 c))] [] [.one (.bool (inR a b c))] [] := by
 refine goF [] [] [] func120 ?_
 refine D ?_
 refine E ?_
 first
 | exact trivial
 | simp only [go_sem, inR]; done
 | try simp only [go_sem, inR]
   exact rfl
end Go.H
end
section
set_option maxRecDepth 100000
set_option maxHeartbeats 4000000
set_option cbv.maxSteps 4000000
set_option linter.unusedVariables false
set_option linter.unusedSimpArgs false
namespace Go.H
open Go Go.Proofs.Tryz
variable [Inv prog]
theorem s_spec_l5Version (n : Int) : SemX prog 117 [aI n] [] [rB (inR n 0 1000000)] [] := by
 refine goF [] [] [] func117 ?_
 refine D ?_
 refine kR (s_spec_l1In n 0 1000000) ?_
 refine D ?_
 exact E trivial
end Go.H
end
section
set_option maxRecDepth 100000
set_option maxHeartbeats 4000000
set_option cbv.maxSteps 4000000
set_option linter.unusedVariables false
set_option linter.unusedSimpArgs false
namespace Go.H
open Go Go.Proofs.Tryz
variable [Inv prog]
theorem s_spec_l3Name (n : Int) : SemX prog 122 [aI n] [] [rB (inR n 1 999)] [] := by
 refine goF [] [] [] func122 ?_
 refine D ?_
 refine kR (s_spec_l1In n 1 999) ?_
 refine D ?_
 exact E trivial
end Go.H
end
section
set_option maxRecDepth 100000
set_option maxHeartbeats 4000000
set_option cbv.maxSteps 4000000
set_option linter.unusedVariables false
set_option linter.unusedSimpArgs false
namespace Go.H
open Go Go.Proofs.Tryz
variable [Inv prog]
theorem s_spec_l2Address (n : Int) : SemX prog 123 [aI n] [] [rB (inR n 0 4294967295)] [] := by
 refine goF [] [] [] func123 ?_
 refine D ?_
 refine kR (s_spec_l1In n 0 4294967295) ?_
 refine D ?_
 exact E trivial
end Go.H
end
section
set_option maxRecDepth 100000
set_option maxHeartbeats 4000000
set_option cbv.maxSteps 4000000
set_option linter.unusedVariables false
set_option linter.unusedSimpArgs false
namespace Go.H
open Go Go.Proofs.Tryz
variable [Inv prog]
theorem s_spec_l5Backend (b : Backend) : SemX prog 118 [aS (eBackend b)] [] [rB (isBk b)] [] := by
 refine goF [] [] [] func118 ?_
 refine D ?_
 refine kR (s_spec_l3Name _) ?_
 refine D ?_
 refine kRg (s_spec_l2Address _) ?_
 refine D ?_
 refine kRg (s_spec_l1In _ _ _) ?_
 refine D ?_
 refine kRg (s_spec_l1In _ _ _) ?_
 refine D ?_
 refine E ?_
 first
 | exact trivial
 | simp only [go_sem, isBk]
end Go.H
end
section
set_option maxRecDepth 100000
set_option maxHeartbeats 4000000
set_option cbv.maxSteps 4000000
set_option linter.unusedVariables false
set_option linter.unusedSimpArgs false
namespace Go.H
open Go Go.Proofs.Tryz
variable [Inv prog]
theorem s_spec_l5Proto (n : Int) : SemX prog 125 [aI n] [] [rB (isPro n)] [] := by
 refine goF [] [] [] func125 ?_
 refine D ?_
 refine E ?_
 first
 | exact trivial
 | simp only [go_sem, isPro]; done
 | try simp only [go_sem, isPro]
   cases decide (n = 6) <;> rfl
end Go.H
end
section
set_option maxRecDepth 100000
set_option maxHeartbeats 4000000
set_option cbv.maxSteps 4000000
set_option linter.unusedVariables false
set_option linter.unusedSimpArgs false
namespace Go.H
open Go Go.Proofs.Tryz
variable [Inv prog]
theorem s_spec_l2Port (n : Int) : SemX prog 166 [aI n] [] [rB (inR n 0 65535)] [] := by
 refine goF [] [] [] func166 ?_
 refine D ?_
 refine kR (s_spec_l1In n 0 65535) ?_
 refine D ?_
 exact E trivial
end Go.H
end
section
set_option maxRecDepth 100000
set_option maxHeartbeats 4000000
set_option cbv.maxSteps 4000000
set_option linter.unusedVariables false
set_option linter.unusedSimpArgs false
namespace Go.H
open Go Go.Proofs.Tryz
variable [Inv prog]
theorem s_spec_l5Behind (a b : Vip) : SemX prog 167 [aS (eVip false a), aS (eVip false b)] [] [rB (behV a b)] [] := by
 refine goF [] [] [] func167 ?_
 refine D ?_
 refine cC (fun c0 => ?_) (fun c0 => ?_)
 · skip
   refine D ?_
   refine E ?_
   first
   | exact trivial
   | simp [behV, *]
 · skip
   refine D ?_
   refine cC (fun c1 => ?_) (fun c1 => ?_)
   · skip
     refine D ?_
     refine E ?_
     first
     | exact trivial
     | simp [behV, *]
   · skip
     refine D ?_
     refine E ?_
     first
     | exact trivial
     | simp [behV, *]
end Go.H
end
section
set_option maxRecDepth 100000
set_option maxHeartbeats 4000000
set_option cbv.maxSteps 4000000
set_option linter.unusedVariables false
set_option linter.unusedSimpArgs false
namespace Go.H
open Go Go.Proofs.Tryz
variable [Inv prog]
theorem s_spec_l5At (c : Config) (hx : limG 2097152 c) (n : Int) : SemX prog 168 [aT (.ptr (eConfig false c)), aI n] [] [rI (findB c.backends n)] [] := by
 refine goF [] [] [] func168 ?_
 obtain ⟨hb, hv, hV⟩ := id hx
 refine D ?_
 refine L (α := Nat) (fun x => [(5, .int .i64 x)]) (fun x => []) (fun x => c.backends.length - x) (fun x => x ≤ c.backends.length ∧ ∀ j, j < x → isB n (c.backends.getD j zBackend) = false) 0 [] (fun x hL => ?_) (hi := by exact ⟨Nat.zero_le _, fun j hj => by omega⟩)
 obtain ⟨hx2, hno⟩ := hL
 refine D ?_
 refine cC (fun c0 => ?_) (fun c0 => ?_)
 · skip
   refine D ?_
   refine cC (fun c1 => ?_) (fun c1 => ?_)
   · skip
     refine D ?_
     refine E ?_
     have he : findB c.backends n = x := idxG_some zBackend (by omega) hno (by simpa [isB] using c1)
     rw [he]
   · skip
     refine D ?_
     refine N (x+1) [] (hi := ?_) (hm := ?_)
     · refine ⟨by omega, fun j hj => ?_⟩
       rcases Nat.lt_or_ge j x with h | h
       · exact hno j h
       · obtain rfl : j = x := by omega
         first | exact c1 | (simpa [isB, isV, eqI] using c1) | (simp [isB, isV, eqI]; grind)
     · omega
 · skip
   obtain rfl : x = c.backends.length := by omega
   refine D ?_
   refine E ?_
   have he : findB c.backends n = -1 := idxG_none zBackend hno
   rw [he]
end Go.H
end
section
set_option maxRecDepth 100000
set_option maxHeartbeats 4000000
set_option cbv.maxSteps 4000000
set_option linter.unusedVariables false
set_option linter.unusedSimpArgs false
namespace Go.H
open Go Go.Proofs.Tryz
variable [Inv prog]
theorem s_spec_l5Vip (c : Config) (hx : limG 2097152 c) (i : Nat) (hi : i < c.vips.length) : SemX prog 119 [aT (.ptr (eConfig false c)), aI i] [] [rI (vipBad c i)] [] := by
 refine goF [(80, ⟨some 1, none, none, none⟩)] [(4, 11, [24576], []), (14, 1, [24576], []), (14, 6, [24576], [])] [] func119 ?_
 obtain ⟨hb, hv, hV⟩ := id hx
 have hnl : (c.vips.getD i zVip).names.length ≤ 2097152 := hV _ (getD_mem zVip hi)
 refine D ?_
 refine kR (s_spec_l2Address _) ?_
 refine D ?_
 refine kRg (s_spec_l2Port _) ?_
 refine D ?_
 refine kRg (s_spec_l5Proto _) ?_
 refine D ?_
 refine cC (fun c0 => ?_) (fun c0 => ?_)
 · skip
   have hv3 : isVp (c.vips.getD i zVip) = false := by unfold isVp; grind
   refine D ?_
   refine E ?_
   unfold vipBad
   rw [if_pos hv3]
 · skip
   have hv3 : isVp (c.vips.getD i zVip) = true := by unfold isVp; grind
   refine D ?_
   refine kDg (s_spec_l5Behind (c.vips.getD (i - 1) zVip) (c.vips.getD i zVip)) ?_
   refine D ?_
   refine cC (fun c1 => ?_) (fun c1 => ?_)
   · skip
     refine D ?_
     refine E ?_
     unfold vipBad
     grind
   · skip
     refine D ?_
     refine L (α := Nat) (fun x => [(6, .int .i64 x)]) (fun x => []) (fun x => (c.vips.getD i zVip).names.length - x) (fun x => x ≤ (c.vips.getD i zVip).names.length ∧ ∀ j, j < x → noB c.backends ((c.vips.getD i zVip).names.getD j zI_i64) = false) 0 [] (fun x hL => ?_) (hi := by exact ⟨Nat.zero_le _, fun j hj => by omega⟩)
     obtain ⟨hx2, hno⟩ := hL
     refine D ?_
     refine cC (fun c2 => ?_) (fun c2 => ?_)
     · skip
       refine D ?_
       refine kR (s_spec_l5At c hx ((c.vips.getD i zVip).names.getD x zI_i64)) ?_
       refine D ?_
       refine cC (fun c3 => ?_) (fun c3 => ?_)
       · skip
         refine D ?_
         refine E ?_
         have hh : hasG (noB c.backends) (c.vips.getD i zVip).names = true := hasG_true zI_i64 (i := x) (by omega) (by unfold noB; grind)
         unfold vipBad
         grind
       · skip
         refine D ?_
         refine N (x+1) [] (hi := ?_) (hm := ?_)
         · refine ⟨by omega, fun j hj => ?_⟩
           rcases Nat.lt_or_ge j x with h | h
           · exact hno j h
           · obtain rfl : j = x := by omega
             simp [noB]; simp at *; omega
         · omega
     · skip
       obtain rfl : x = (c.vips.getD i zVip).names.length := by omega
       refine D ?_
       refine L (α := Nat) (fun y => [(7, .int .i64 y)]) (fun y => []) (fun y => (c.vips.getD i zVip).names.length - y) (fun y => 1 ≤ y ∧ (y ≤ (c.vips.getD i zVip).names.length ∨ y = 1) ∧ scan (nmBad (c.vips.getD i zVip)) (c.vips.getD i zVip).names.length 1 = scan (nmBad (c.vips.getD i zVip)) (c.vips.getD i zVip).names.length y) 1 [] (fun y hL => ?_) (hi := by exact ⟨Nat.le_refl _, .inr rfl, rfl⟩)
       obtain ⟨hy, hy2, hys⟩ := hL
       refine D ?_
       refine cC (fun c4 => ?_) (fun c4 => ?_)
       · skip
         refine D ?_
         refine cC (fun c5 => ?_) (fun c5 => ?_)
         · skip
           refine D ?_
           refine E ?_
           have hh : hasG (noB c.backends) (c.vips.getD i zVip).names = false := hasG_false zI_i64 hno
           have hs : scan (nmBad (c.vips.getD i zVip)) (c.vips.getD i zVip).names.length y = 1 := by
             rw [scan_lt (by omega)]
             unfold nmBad
             grind
           unfold vipBad
           grind
         · skip
           refine D ?_
           refine N (y+1) [] (hi := ?_) (hm := ?_)
           · refine ⟨by omega, .inl (by omega), ?_⟩
             rw [hys, scan_lt (by omega), if_pos]
             unfold nmBad
             simp at *
             grind
           · omega
       · skip
         refine D ?_
         refine E ?_
         have hh : hasG (noB c.backends) (c.vips.getD i zVip).names = false := hasG_false zI_i64 hno
         have hs : scan (nmBad (c.vips.getD i zVip)) (c.vips.getD i zVip).names.length y = 0 := scan_ge (by omega)
         unfold vipBad
         grind
end Go.H
end
section
set_option maxRecDepth 100000
set_option maxHeartbeats 4000000
set_option cbv.maxSteps 4000000
set_option linter.unusedVariables false
set_option linter.unusedSimpArgs false
namespace Go.H
open Go Go.Proofs.Tryz
variable [Inv prog]
theorem s_spec_l5Fault (c : Config) (hx : limG 2097152 c) : SemX prog 71 [aT (.ptr (eConfig false c))] [] [rI (configFault c)] [] := by
 refine goF [(122, ⟨some 1, none, none, none⟩)] [] [] func71 ?_
 obtain ⟨hb, hv, hV⟩ := id hx
 refine D ?_
 refine kR (s_spec_l5Version _) ?_
 refine D ?_
 refine cC (fun c0 => ?_) (fun c0 => ?_)
 · skip
   refine D ?_
   refine E ?_
   first
   | exact trivial
   | unfold configFault
     grind
 · skip
   refine D ?_
   refine cC (fun c1 => ?_) (fun c1 => ?_)
   · skip
     refine D ?_
     refine E ?_
     first
     | exact trivial
     | unfold configFault
       grind
   · skip
     refine D ?_
     refine L (α := Nat) (fun x => [(3, .int .i64 x)]) (fun x => []) (fun x => c.backends.length - x) (fun x => x ≤ c.backends.length ∧ scan (bkBad c.backends) c.backends.length 0 = scan (bkBad c.backends) c.backends.length x) 0 [] (fun x hL => ?_) (hi := by exact ⟨Nat.zero_le _, rfl⟩)
     obtain ⟨hx2, he⟩ := hL
     refine D ?_
     refine cC (fun c2 => ?_) (fun c2 => ?_)
     · skip
       have hst := scan_lt (f := bkBad c.backends) (show x < c.backends.length by omega)
       have hd : bkBad c.backends x = if isBk (c.backends.getD x zBackend) = false then 3 else if 0 < x ∧ (c.backends.getD x zBackend).name ≤ (c.backends.getD (x - 1) zBackend).name then 1 else 0 := rfl
       refine D ?_
       refine kR (s_spec_l5Backend _) ?_
       refine D ?_
       refine cC (fun c3 => ?_) (fun c3 => ?_)
       · skip
         refine D ?_
         refine E ?_
         first
         | exact trivial
         | unfold configFault
           grind
       · skip
         refine D ?_
         refine cC (fun c4 => ?_) (fun c4 => ?_)
         · skip
           refine D ?_
           refine E ?_
           first
           | exact trivial
           | unfold configFault
             grind
         · skip
           refine D ?_
           refine N (x+1) [] (hi := ?_) (hm := ?_)
           · refine ⟨by omega, ?_⟩
             rw [he, scan_lt (by omega), if_pos]
             unfold bkBad
             grind
           · omega
     · skip
       have hs0 : scan (bkBad c.backends) c.backends.length 0 = 0 := by rw [he, scan_ge (by omega)]
       refine D ?_
       refine L (α := Nat) (fun i => [(4, .int .i64 i)]) (fun i => []) (fun i => c.vips.length - i) (fun i => i ≤ c.vips.length ∧ scan (vipBad c) c.vips.length 0 = scan (vipBad c) c.vips.length i) 0 [] (fun i hL => ?_) (hi := by exact ⟨Nat.zero_le _, rfl⟩)
       obtain ⟨hi2, hie⟩ := hL
       refine D ?_
       refine cC (fun c5 => ?_) (fun c5 => ?_)
       · skip
         have hst2 := scan_lt (f := vipBad c) (show i < c.vips.length by omega)
         refine D ?_
         refine kR (s_spec_l5Vip c hx i (by omega)) ?_
         refine D ?_
         refine cC (fun c6 => ?_) (fun c6 => ?_)
         · skip
           refine D ?_
           refine E ?_
           first
           | exact trivial
           | unfold configFault
             grind
         · skip
           refine D ?_
           refine N (i+1) [] (hi := ?_) (hm := ?_)
           · refine ⟨by omega, ?_⟩
             rw [hie, scan_lt (by omega), if_pos]
             grind
           · omega
       · skip
         have hs1 : scan (vipBad c) c.vips.length 0 = 0 := by rw [hie, scan_ge (by omega)]
         refine D ?_
         refine E ?_
         first
         | exact trivial
         | unfold configFault
           grind
end Go.H
end
section
set_option maxRecDepth 100000
set_option maxHeartbeats 4000000
set_option cbv.maxSteps 4000000
set_option linter.unusedVariables false
set_option linter.unusedSimpArgs false
namespace Go.H
open Go Go.Proofs.Tryz
variable [Inv prog]
theorem s_impl_in (a b c : Int) : SemX prog 130 [.one (.t (.int .i64 a)), .one (.t (.int .i64 b)), .one (.t (.int .i64 c))] [] [.one (.bool (inR a b c))] [] := by
 refine goF [] [] [] func130 ?_
 refine D ?_
 refine E ?_
 first
 | exact trivial
 | simp only [go_sem, inR]; done
 | try simp only [go_sem, inR]
   exact rfl
end Go.H
end
section
set_option maxRecDepth 100000
set_option maxHeartbeats 4000000
set_option cbv.maxSteps 4000000
set_option linter.unusedVariables false
set_option linter.unusedSimpArgs false
namespace Go.H
open Go Go.Proofs.Tryz
variable [Inv prog]
theorem s_impl_isAddress (n : Int) : SemX prog 132 [aI n] [] [rB (inR n 0 4294967295)] [] := by
 refine goF [] [] [] func132 ?_
 refine D ?_
 refine kR (s_impl_in n 0 4294967295) ?_
 refine D ?_
 exact E trivial
end Go.H
end
section
set_option maxRecDepth 100000
set_option maxHeartbeats 4000000
set_option cbv.maxSteps 4000000
set_option linter.unusedVariables false
set_option linter.unusedSimpArgs false
namespace Go.H
open Go Go.Proofs.Tryz
variable [Inv prog]
theorem s_impl_isName (n : Int) : SemX prog 140 [aI n] [] [rB (inR n 1 999)] [] := by
 refine goF [] [] [] func140 ?_
 refine D ?_
 refine kR (s_impl_in n 1 999) ?_
 refine D ?_
 exact E trivial
end Go.H
end
section
set_option maxRecDepth 100000
set_option maxHeartbeats 4000000
set_option cbv.maxSteps 4000000
set_option linter.unusedVariables false
set_option linter.unusedSimpArgs false
namespace Go.H
open Go Go.Proofs.Tryz
variable [Inv prog]
theorem s_impl_isBackend (b : Backend) : SemX prog 131 [aS (eBackend b)] [] [rB (isBk b)] [] := by
 refine goF [] [] [] func131 ?_
 refine D ?_
 refine kR (s_impl_isName _) ?_
 refine D ?_
 refine kRg (s_impl_isAddress _) ?_
 refine D ?_
 refine kRg (s_impl_in _ _ _) ?_
 refine D ?_
 refine kRg (s_impl_in _ _ _) ?_
 refine D ?_
 refine E ?_
 first
 | exact trivial
 | simp only [go_sem, isBk]
end Go.H
end
section
set_option maxRecDepth 100000
set_option maxHeartbeats 4000000
set_option cbv.maxSteps 4000000
set_option linter.unusedVariables false
set_option linter.unusedSimpArgs false
namespace Go.H
open Go Go.Proofs.Tryz
variable [Inv prog]
theorem s_impl_isPort (n : Int) : SemX prog 133 [aI n] [] [rB (inR n 0 65535)] [] := by
 refine goF [] [] [] func133 ?_
 refine D ?_
 refine kR (s_impl_in n 0 65535) ?_
 refine D ?_
 exact E trivial
end Go.H
end
section
set_option maxRecDepth 100000
set_option maxHeartbeats 4000000
set_option cbv.maxSteps 4000000
set_option linter.unusedVariables false
set_option linter.unusedSimpArgs false
namespace Go.H
open Go Go.Proofs.Tryz
variable [Inv prog]
theorem s_impl_isProto (n : Int) : SemX prog 134 [aI n] [] [rB (isPro n)] [] := by
 refine goF [] [] [] func134 ?_
 refine D ?_
 refine E ?_
 first
 | exact trivial
 | simp only [go_sem, isPro]; done
 | try simp only [go_sem, isPro]
   cases decide (n = 6) <;> rfl
end Go.H
end
section
set_option maxRecDepth 100000
set_option maxHeartbeats 4000000
set_option cbv.maxSteps 4000000
set_option linter.unusedVariables false
set_option linter.unusedSimpArgs false
namespace Go.H
open Go Go.Proofs.Tryz
variable [Inv prog]
theorem s_cmp_Or_int (xs : List Int) (hl : xs.length ≤ 2097152) : SemX prog 174 [aT (.sl false 1 (xs.map eI_i64))] [] [rI (orL xs)] [] := by
 refine goF [] [] [] func174 ?_
 refine D ?_
 refine L (α := Nat) (fun x => [(8, .int .i64 x)]) (fun x => []) (fun x => xs.length - x) (fun x => x ≤ xs.length ∧ ∀ j, j < x → xs.getD j zI_i64 = 0) 0 [] (fun x hL => ?_) (hi := by exact ⟨Nat.zero_le _, fun j hj => by omega⟩)
 obtain ⟨hx, hno⟩ := hL
 refine D ?_
 refine cC (fun c0 => ?_) (fun c0 => ?_)
 · skip
   refine D ?_
   refine cC (fun c1 => ?_) (fun c1 => ?_)
   · skip
     refine D ?_
     refine E ?_
     rw [orL_some (by omega) hno (by simpa using c1)]
   · skip
     refine D ?_
     refine N (x+1) [] (hi := ?_) (hm := ?_)
     · refine ⟨by omega, fun j hj => ?_⟩
       rcases Nat.lt_or_ge j x with h | h
       · exact hno j h
       · obtain rfl : j = x := by omega
         simpa using c1
     · omega
 · skip
   obtain rfl : x = xs.length := by omega
   refine D ?_
   refine E ?_
   rw [orL_zero hno]
end Go.H
end
section
set_option maxRecDepth 100000
set_option maxHeartbeats 4000000
set_option cbv.maxSteps 4000000
set_option linter.unusedVariables false
set_option linter.unusedSimpArgs false
namespace Go.H
open Go Go.Proofs.Tryz
variable [Inv prog]
theorem s_cmp_isNaN_int64 (a : Int) : SemX prog 192 [aI a] [] [rB false] [] := by
 refine goF [] [] [] func192 ?_
 refine D ?_
 exact E trivial
end Go.H
end
section
set_option maxRecDepth 100000
set_option maxHeartbeats 4000000
set_option cbv.maxSteps 4000000
set_option linter.unusedVariables false
set_option linter.unusedSimpArgs false
namespace Go.H
open Go Go.Proofs.Tryz
variable [Inv prog]
theorem s_cmp_Compare_int64 (a b : Int) : SemX prog 175 [aI a, aI b] [] [rI (cmpI a b)] [] := by
 refine goF [] [] [] func175 ?_
 refine D ?_
 refine kR (s_cmp_isNaN_int64 _) ?_
 refine D ?_
 refine kR (s_cmp_isNaN_int64 _) ?_
 refine D ?_
 refine cC (fun c0 => ?_) (fun c0 => ?_)
 · skip
   refine D ?_
   refine cC (fun c1 => ?_) (fun c1 => ?_)
   · skip
     refine D ?_
     refine E ?_
     first
     | exact trivial
     | first | (exfalso; simp_all; done) | (simp [cmpI, *]; done) | (simp [cmpI]; omega) | (unfold cmpI; grind)
   · skip
     refine D ?_
     refine E ?_
     first
     | exact trivial
     | first | (exfalso; simp_all; done) | (simp [cmpI, *]; done) | (simp [cmpI]; omega) | (unfold cmpI; grind)
 · skip
   refine D ?_
   refine cC (fun c2 => ?_) (fun c2 => ?_)
   · skip
     refine D ?_
     refine E ?_
     first
     | exact trivial
     | first | (exfalso; simp_all; done) | (simp [cmpI, *]; done) | (simp [cmpI]; omega) | (unfold cmpI; grind)
   · skip
     refine D ?_
     refine cC (fun c3 => ?_) (fun c3 => ?_)
     · skip
       refine D ?_
       refine E ?_
       first
       | exact trivial
       | first | (exfalso; simp_all; done) | (simp [cmpI, *]; done) | (simp [cmpI]; omega) | (unfold cmpI; grind)
     · skip
       refine D ?_
       refine cC (fun c4 => ?_) (fun c4 => ?_)
       · skip
         refine D ?_
         refine E ?_
         first
         | exact trivial
         | first | (exfalso; simp_all; done) | (simp [cmpI, *]; done) | (simp [cmpI]; omega) | (unfold cmpI; grind)
       · skip
         refine D ?_
         refine E ?_
         first
         | exact trivial
         | first | (exfalso; simp_all; done) | (simp [cmpI, *]; done) | (simp [cmpI]; omega) | (unfold cmpI; grind)
end Go.H
end
section
set_option maxRecDepth 100000
set_option maxHeartbeats 4000000
set_option cbv.maxSteps 4000000
set_option linter.unusedVariables false
set_option linter.unusedSimpArgs false
namespace Go.H
open Go Go.Proofs.Tryz
variable [Inv prog]
theorem s_impl_compareVip (a b : Vip) : SemX prog 135 [aS (eVip false a), aS (eVip false b)] [] [rI (cmpV a b)] [] := by
 refine goF [] [(1, 1, [12288], []), (1, 3, [16384], []), (1, 6, [12288], []), (1, 8, [16384], []), (1, 11, [12288], []), (1, 13, [16384], []), (1, 15, [], [86016]), (1, 16, [86016], [])] [] func135 ?_
 refine D ?_
 refine kD (s_cmp_Compare_int64 a.address b.address) ?_
 refine D ?_
 refine kD (s_cmp_Compare_int64 a.port b.port) ?_
 refine D ?_
 refine kD (s_cmp_Compare_int64 a.proto b.proto) ?_
 refine D ?_
 refine kD (s_cmp_Or_int [cmpI a.address b.address, cmpI a.port b.port, cmpI a.proto b.proto] (by simp)) ?_
 refine D ?_
 refine E ?_
 first
 | exact trivial
 | rw [cmpV_or]
theorem s_impl_compareVip_raw (a b : RVp) : SemX prog 135 [aS (eRV a), aS (eRV b)] [] [rI (cmpV a.1 b.1)] [] := by
 refine goF [] [(1, 1, [12288], []), (1, 3, [16384], []), (1, 6, [12288], []), (1, 8, [16384], []), (1, 11, [12288], []), (1, 13, [16384], []), (1, 15, [], [86016]), (1, 16, [86016], [])] [] func135 ?_
 refine D ?_
 refine kD (s_cmp_Compare_int64 a.1.address b.1.address) ?_
 refine D ?_
 refine kD (s_cmp_Compare_int64 a.1.port b.1.port) ?_
 refine D ?_
 refine kD (s_cmp_Compare_int64 a.1.proto b.1.proto) ?_
 refine D ?_
 refine kD (s_cmp_Or_int [cmpI a.1.address b.1.address, cmpI a.1.port b.1.port, cmpI a.1.proto b.1.proto] (by simp)) ?_
 refine D ?_
 refine E ?_
 first
 | exact trivial
 | rw [cmpV_or]
end Go.H
end
section
set_option maxRecDepth 100000
set_option maxHeartbeats 4000000
set_option cbv.maxSteps 4000000
set_option linter.unusedVariables false
set_option linter.unusedSimpArgs false
namespace Go.H
open Go Go.Proofs.Tryz
variable [Inv prog]
theorem s_slices_IndexFunc_int64 (R : List Int) (hl : R.length ≤ 2097152) (fn : Nat) (c : Config) (hcl : limG 2097152 c) (q : Int → Bool) (hq : callB prog fn = true) (hf : ∀ b : Int, b ∈ R → SemX prog fn [aI b, aT (.ptr (eConfig false c))] [] [rB (q b)] []) : SemX prog 176 [aT (.sl false 1 (R.map eI_i64)), .one (.fn fn [.t (.ptr (eConfig false c))])] [] [rI (idxG q R)] [] := by
 refine goF [] [] [] func176 ?_
 refine D ?_
 refine L (α := Nat) (fun x => [(8, .int .i64 x)]) (fun x => []) (fun x => R.length - x) (fun x => x ≤ R.length ∧ ∀ j, j < x → q (R.getD j zI_i64) = false) 0 [] (fun x hL => ?_) (hi := by exact ⟨Nat.zero_le _, fun j hj => by omega⟩)
 obtain ⟨hx2, hno⟩ := hL
 refine D ?_
 refine cC (fun c0 => ?_) (fun c0 => ?_)
 · skip
   refine D ?_
   refine kR (hf (R.getD x zI_i64) (getD_mem zI_i64 (by omega))) ?_ hq
   refine D ?_
   refine cC (fun c1 => ?_) (fun c1 => ?_)
   · skip
     refine D ?_
     refine E ?_
     rw [idxG_some zI_i64 (by omega) hno c1]
   · skip
     refine D ?_
     refine N (x+1) [] (hi := ?_) (hm := ?_)
     · refine ⟨by omega, fun j hj => ?_⟩
       rcases Nat.lt_or_ge j x with h | h
       · exact hno j h
       · obtain rfl : j = x := by omega
         first | exact c1 | (simpa [isB, isV, eqI] using c1) | (simp [isB, isV, eqI]; grind)
     · omega
 · skip
   obtain rfl : x = R.length := by omega
   refine D ?_
   refine E ?_
   rw [idxG_none zI_i64 hno]
end Go.H
end
section
set_option maxRecDepth 100000
set_option maxHeartbeats 4000000
set_option cbv.maxSteps 4000000
set_option linter.unusedVariables false
set_option linter.unusedSimpArgs false
namespace Go.H
open Go Go.Proofs.Tryz
variable [Inv prog]
theorem s_slices_ContainsFunc_int64 (R : List Int) (hl : R.length ≤ 2097152) (fn : Nat) (c : Config) (hcl : limG 2097152 c) (q : Int → Bool) (hq : callB prog fn = true) (hf : ∀ b : Int, b ∈ R → SemX prog fn [aI b, aT (.ptr (eConfig false c))] [] [rB (q b)] []) : SemX prog 136 [aT (.sl false 1 (R.map eI_i64)), .one (.fn fn [.t (.ptr (eConfig false c))])] [] [rB (hasG q R)] [] := by
 refine goF [] [] [] func136 ?_
 refine D ?_
 refine kR (s_slices_IndexFunc_int64 R hl fn c hcl q hq hf) ?_
 refine D ?_
 refine E ?_
 first
 | exact trivial
 | simp only [go_sem, hasG]
end Go.H
end
section
set_option maxRecDepth 100000
set_option maxHeartbeats 4000000
set_option cbv.maxSteps 4000000
set_option linter.unusedVariables false
set_option linter.unusedSimpArgs false
namespace Go.H
open Go Go.Proofs.Tryz
variable [Inv prog]
theorem s_slices_IndexFunc_Backend (R : List Backend) (hl : R.length ≤ 2097152) (fn : Nat) (n : Int) (q : Backend → Bool) (hq : callB prog fn = true) (hf : ∀ b : Backend, b ∈ R → SemX prog fn [aS (eBackend b), aT (.ptr [.int .i64 n])] [] [rB (q b)] []) : SemX prog 177 [aT (.sl false 5 (R.map eBackend)), .one (.fn fn [.t (.ptr [.int .i64 n])])] [] [rI (idxG q R)] [] := by
 refine goF [] [] [] func177 ?_
 refine D ?_
 refine L (α := Nat) (fun x => [(8, .int .i64 x)]) (fun x => []) (fun x => R.length - x) (fun x => x ≤ R.length ∧ ∀ j, j < x → q (R.getD j zBackend) = false) 0 [] (fun x hL => ?_) (hi := by exact ⟨Nat.zero_le _, fun j hj => by omega⟩)
 obtain ⟨hx2, hno⟩ := hL
 refine D ?_
 refine cC (fun c0 => ?_) (fun c0 => ?_)
 · skip
   refine D ?_
   refine kR (hf (R.getD x zBackend) (getD_mem zBackend (by omega))) ?_ hq
   refine D ?_
   refine cC (fun c1 => ?_) (fun c1 => ?_)
   · skip
     refine D ?_
     refine E ?_
     rw [idxG_some zBackend (by omega) hno c1]
   · skip
     refine D ?_
     refine N (x+1) [] (hi := ?_) (hm := ?_)
     · refine ⟨by omega, fun j hj => ?_⟩
       rcases Nat.lt_or_ge j x with h | h
       · exact hno j h
       · obtain rfl : j = x := by omega
         first | exact c1 | (simpa [isB, isV, eqI] using c1) | (simp [isB, isV, eqI]; grind)
     · omega
 · skip
   obtain rfl : x = R.length := by omega
   refine D ?_
   refine E ?_
   rw [idxG_none zBackend hno]
end Go.H
end
section
set_option maxRecDepth 100000
set_option maxHeartbeats 4000000
set_option cbv.maxSteps 4000000
set_option linter.unusedVariables false
set_option linter.unusedSimpArgs false
namespace Go.H
open Go Go.Proofs.Tryz
variable [Inv prog]
theorem s_impl_Config_backend_1 (b : Backend) (n : Int) : SemX prog 178 [aS (eBackend b), aT (.ptr [.int .i64 n])] [] [rB (isB n b)] [] := by
 refine goF [] [] [] func178 ?_
 refine D ?_
 refine E ?_
 first
 | exact trivial
 | simp only [go_sem, isB]
end Go.H
end
section
set_option maxRecDepth 100000
set_option maxHeartbeats 4000000
set_option cbv.maxSteps 4000000
set_option linter.unusedVariables false
set_option linter.unusedSimpArgs false
namespace Go.H
open Go Go.Proofs.Tryz
variable [Inv prog]
theorem s_impl_Config_backend (c : Config) (hx : limG 2097152 c) (n : Int) : SemX prog 138 [aT (.ptr (eConfig false c)), aI n] [] [rI (findB c.backends n)] [] := by
 refine goF [] [] [] func138 ?_
 obtain ⟨hb, hv, hV⟩ := id hx
 refine D ?_
 refine kR (s_slices_IndexFunc_Backend c.backends hb 178 n (isB n) (by kernel_rfl) (fun b _ => s_impl_Config_backend_1 b n)) ?_
 refine D ?_
 refine E ?_
 first
 | exact trivial
 | simp only [go_sem, findB]
end Go.H
end
section
set_option maxRecDepth 100000
set_option maxHeartbeats 4000000
set_option cbv.maxSteps 4000000
set_option linter.unusedVariables false
set_option linter.unusedSimpArgs false
namespace Go.H
open Go Go.Proofs.Tryz
variable [Inv prog]
theorem s_impl_ConfigFault_1 (n : Int) (c : Config) (hx : limG 2097152 c) : SemX prog 137 [aI n, aT (.ptr (eConfig false c))] [] [rB (noB c.backends n)] [] := by
 refine goF [] [] [] func137 ?_
 refine D ?_
 refine kR (s_impl_Config_backend c hx n) ?_
 refine D ?_
 refine E ?_
 first
 | exact trivial
 | simp only [go_sem, noB]
end Go.H
end
section
set_option maxRecDepth 100000
set_option maxHeartbeats 4000000
set_option cbv.maxSteps 4000000
set_option linter.unusedVariables false
set_option linter.unusedSimpArgs false
namespace Go.H
open Go Go.Proofs.Tryz
variable [Inv prog]
theorem s_impl_ConfigFault (c : Config) (hx : limG 2097152 c) : SemX prog 76 [aS (eConfig false c)] [] [rI (configFault c)] [] := by
 refine goF [(88, ⟨some 1, none, none, none⟩), (162, ⟨some 1, none, none, none⟩)] [(10, 4, [20480], []), (10, 6, [8192], []), (18, 4, [8192], []), (18, 9, [28672], []), (25, 1, [28672], []), (25, 6, [28672], [])] [] func76 ?_
 obtain ⟨hb, hv, hV⟩ := id hx
 refine D ?_
 refine kR (s_impl_in _ _ _) ?_
 refine D ?_
 refine cC (fun c0 => ?_) (fun c0 => ?_)
 · skip
   refine D ?_
   refine E ?_
   first
   | exact trivial
   | unfold configFault
     grind
 · skip
   refine D ?_
   refine cC (fun c1 => ?_) (fun c1 => ?_)
   · skip
     refine D ?_
     refine E ?_
     first
     | exact trivial
     | unfold configFault
       grind
   · skip
     refine D ?_
     refine L (α := Nat) (fun x => [(27, .int .i64 x)]) (fun x => []) (fun x => c.backends.length - x) (fun x => x ≤ c.backends.length ∧ scan (bkBad c.backends) c.backends.length 0 = scan (bkBad c.backends) c.backends.length x) 0 [] (fun x hL => ?_) (hi := by exact ⟨Nat.zero_le _, rfl⟩)
     obtain ⟨hx2, he⟩ := hL
     refine D ?_
     refine cC (fun c2 => ?_) (fun c2 => ?_)
     · skip
       have hst := scan_lt (f := bkBad c.backends) (show x < c.backends.length by omega)
       have hd : bkBad c.backends x = if isBk (c.backends.getD x zBackend) = false then 3 else if 0 < x ∧ (c.backends.getD x zBackend).name ≤ (c.backends.getD (x - 1) zBackend).name then 1 else 0 := rfl
       refine D ?_
       refine kR (s_impl_isBackend _) ?_
       refine D ?_
       refine cC (fun c3 => ?_) (fun c3 => ?_)
       · skip
         refine D ?_
         refine E ?_
         first
         | exact trivial
         | unfold configFault
           grind
       · skip
         refine D ?_
         refine cC (fun c4 => ?_) (fun c4 => ?_)
         · skip
           refine D ?_
           refine E ?_
           first
           | exact trivial
           | unfold configFault
             grind
         · skip
           refine D ?_
           refine N (x+1) [] (hi := ?_) (hm := ?_)
           · refine ⟨by omega, ?_⟩
             rw [he, scan_lt (by omega), if_pos]
             unfold bkBad
             grind
           · omega
     · skip
       have hs0 : scan (bkBad c.backends) c.backends.length 0 = 0 := by rw [he, scan_ge (by omega)]
       refine D ?_
       refine L (α := Nat) (fun i => [(53, .int .i64 i)]) (fun i => []) (fun i => c.vips.length - i) (fun i => i ≤ c.vips.length ∧ scan (vipBad c) c.vips.length 0 = scan (vipBad c) c.vips.length i) 0 [] (fun i hL => ?_) (hi := by exact ⟨Nat.zero_le _, rfl⟩)
       obtain ⟨hi2, hie⟩ := hL
       refine D ?_
       refine cC (fun c5 => ?_) (fun c5 => ?_)
       · skip
         have hst2 := scan_lt (f := vipBad c) (show i < c.vips.length by omega)
         refine D ?_
         refine kR (s_impl_isAddress _) ?_
         refine D ?_
         refine kRg (s_impl_isPort _) ?_
         refine D ?_
         refine kRg (s_impl_isProto _) ?_
         refine D ?_
         refine cC (fun c6 => ?_) (fun c6 => ?_)
         · skip
           have hv3 : isVp (c.vips.getD i zVip) = false := by unfold isVp; grind
           have hvb : vipBad c i = 3 := by unfold vipBad; rw [if_pos hv3]
           refine D ?_
           refine E ?_
           first
           | exact trivial
           | unfold configFault
             grind
         · skip
           have hv3 : isVp (c.vips.getD i zVip) = true := by unfold isVp; grind
           refine D ?_
           refine kDg (s_impl_compareVip (c.vips.getD (i - 1) zVip) (c.vips.getD i zVip)) ?_
           refine D ?_
           refine cC (fun c7 => ?_) (fun c7 => ?_)
           · skip
             have hbh := cmpV_ge (c.vips.getD (i - 1) zVip) (c.vips.getD i zVip)
             have hvb : vipBad c i = 1 := by unfold vipBad; grind
             refine D ?_
             refine E ?_
             first
             | exact trivial
             | unfold configFault
               grind
           · skip
             have hbh := cmpV_ge (c.vips.getD (i - 1) zVip) (c.vips.getD i zVip)
             have hbq : ¬ (0 < i ∧ behV (c.vips.getD (i - 1) zVip) (c.vips.getD i zVip) = false) := by grind
             refine D ?_
             refine kR (s_slices_ContainsFunc_int64 (c.vips.getD i zVip).names (hV _ (getD_mem zVip (by omega))) 137 c hx (noB c.backends) (by kernel_rfl) (fun n _ => s_impl_ConfigFault_1 n c hx)) ?_
             refine D ?_
             refine cC (fun c8 => ?_) (fun c8 => ?_)
             · skip
               have hvb : vipBad c i = 4 := by unfold vipBad; rw [if_neg (by rw [hv3]; simp), if_neg hbq, if_pos (by simpa using c8)]
               refine D ?_
               refine E ?_
               first
               | exact trivial
               | unfold configFault
                 grind
             · skip
               have hcf : hasG (noB c.backends) (c.vips.getD i zVip).names = false := by simpa using c8
               have hvs : vipBad c i = scan (nmBad (c.vips.getD i zVip)) (c.vips.getD i zVip).names.length 1 := by unfold vipBad; rw [if_neg (by rw [hv3]; simp), if_neg hbq, if_neg (by rw [hcf]; simp)]
               refine D ?_
               refine L (α := Nat) (fun y => [(7, .int .i64 y)]) (fun y => []) (fun y => (c.vips.getD i zVip).names.length - y) (fun y => 1 ≤ y ∧ (y ≤ (c.vips.getD i zVip).names.length ∨ y = 1) ∧ scan (nmBad (c.vips.getD i zVip)) (c.vips.getD i zVip).names.length 1 = scan (nmBad (c.vips.getD i zVip)) (c.vips.getD i zVip).names.length y) 1 [] (fun y hL => ?_) (hi := by exact ⟨Nat.le_refl _, .inr rfl, rfl⟩)
               obtain ⟨hy, hy2, hys⟩ := hL
               refine D ?_
               refine cC (fun c9 => ?_) (fun c9 => ?_)
               · skip
                 have hnl : (c.vips.getD i zVip).names.length ≤ 2097152 := hV _ (getD_mem zVip (by omega))
                 refine D ?_
                 refine cC (fun c10 => ?_) (fun c10 => ?_)
                 · skip
                   have hvb : vipBad c i = 1 := by
                     rw [hvs, hys, scan_lt (by omega)]
                     unfold nmBad
                     grind
                   refine D ?_
                   refine E ?_
                   first
                   | exact trivial
                   | unfold configFault
                     grind
                 · skip
                   refine D ?_
                   refine N (y+1) [] (hi := ?_) (hm := ?_)
                   · refine ⟨by omega, .inl (by omega), ?_⟩
                     rw [hys, scan_lt (by omega), if_pos]
                     unfold nmBad
                     simp at *
                     grind
                   · omega
               · skip
                 have hvb : vipBad c i = 0 := by rw [hvs, hys, scan_ge (by omega)]
                 refine D ?_
                 refine N (i+1) [] (hi := ?_) (hm := ?_)
                 · refine ⟨by omega, ?_⟩
                   rw [hie, scan_lt (by omega), if_pos]
                   grind
                 · omega
       · skip
         have hs1 : scan (vipBad c) c.vips.length 0 = 0 := by rw [hie, scan_ge (by omega)]
         refine D ?_
         refine E ?_
         first
         | exact trivial
         | unfold configFault
           grind
end Go.H
end
section
set_option maxRecDepth 100000
set_option maxHeartbeats 4000000
set_option cbv.maxSteps 4000000
set_option linter.unusedVariables false
set_option linter.unusedSimpArgs false
namespace Go.H
open Go Go.Proofs.Tryz
variable [Inv prog]
theorem s_spec_l5Needs (k : Int) : SemX prog 121 [aI k] [] [rB (nd1 k), rB (nd2 k), rB (nd3 k), rB (nd4 k)] [] := by
 refine goF [] [] [] func121 ?_
 refine D ?_
 refine kR (s_spec_l1In k 5 8) ?_
 refine D ?_
 refine E ?_
 first
 | exact trivial
 | simp only [go_sem, nd1, nd2, nd3, nd4, rB]; done
 | try simp only [go_sem, nd1, nd2, nd3, nd4, rB]
   simp
   rw [Bool.eq_iff_iff]
   simp [inR]
   omega
end Go.H
end
section
set_option maxRecDepth 100000
set_option maxHeartbeats 4000000
set_option cbv.maxSteps 4000000
set_option linter.unusedVariables false
set_option linter.unusedSimpArgs false
namespace Go.H
open Go Go.Proofs.Tryz
variable [Inv prog]
theorem s_spec_l5Number (x : Cmd) : SemX prog 124 [aS (eCmd x)] [] [rB (isNum x)] [] := by
 refine goF [] [] [] func124 ?_
 refine D ?_
 refine cC (fun c0 => ?_) (fun c0 => ?_)
 · skip
   refine D ?_
   refine cC (fun c1 => ?_) (fun c1 => ?_)
   · skip
     refine D ?_
     refine kR (s_spec_l1In _ _ _) ?_
     refine D ?_
     refine E ?_
     first
     | exact trivial
     | simp only [go_sem, isNum]; done
     | try simp only [go_sem, isNum]
       first | (exfalso; omega) | (simp [*]; done)
   · skip
     refine D ?_
     refine cC (fun c2 => ?_) (fun c2 => ?_)
     · skip
       refine D ?_
       refine kR (s_spec_l1In _ _ _) ?_
       refine D ?_
       refine E ?_
       first
       | exact trivial
       | simp only [go_sem, isNum]; done
       | try simp only [go_sem, isNum]
         first | (exfalso; omega) | (simp [*]; done)
     · skip
       refine D ?_
       refine cC (fun c3 => ?_) (fun c3 => ?_)
       · skip
         refine D ?_
         refine kR (s_spec_l1In _ _ _) ?_
         refine D ?_
         refine E ?_
         first
         | exact trivial
         | simp only [go_sem, isNum]; done
         | try simp only [go_sem, isNum]
           first | (exfalso; omega) | (simp [*]; done)
       · skip
         refine D ?_
         refine kR (s_spec_l2Port _) ?_
         refine D ?_
         refine E ?_
         first
         | exact trivial
         | simp only [go_sem, isNum]; done
         | try simp only [go_sem, isNum]
           first | (exfalso; omega) | (simp [*]; done)
 · skip
   refine D ?_
   refine cC (fun c1 => ?_) (fun c1 => ?_)
   · skip
     refine D ?_
     refine kR (s_spec_l1In _ _ _) ?_
     refine D ?_
     refine E ?_
     first
     | exact trivial
     | simp only [go_sem, isNum]; done
     | try simp only [go_sem, isNum]
       first | (exfalso; omega) | (simp [*]; done)
   · skip
     refine D ?_
     refine cC (fun c2 => ?_) (fun c2 => ?_)
     · skip
       refine D ?_
       refine kR (s_spec_l1In _ _ _) ?_
       refine D ?_
       refine E ?_
       first
       | exact trivial
       | simp only [go_sem, isNum]; done
       | try simp only [go_sem, isNum]
         first | (exfalso; omega) | (simp [*]; done)
     · skip
       refine D ?_
       refine cC (fun c3 => ?_) (fun c3 => ?_)
       · skip
         refine D ?_
         refine kR (s_spec_l1In _ _ _) ?_
         refine D ?_
         refine E ?_
         first
         | exact trivial
         | simp only [go_sem, isNum]; done
         | try simp only [go_sem, isNum]
           first | (exfalso; omega) | (simp [*]; done)
       · skip
         refine D ?_
         refine kR (s_spec_l2Port _) ?_
         refine D ?_
         refine E ?_
         first
         | exact trivial
         | simp only [go_sem, isNum]; done
         | try simp only [go_sem, isNum]
           first | (exfalso; omega) | (simp [*]; done)
end Go.H
end
section
set_option maxRecDepth 100000
set_option maxHeartbeats 4000000
set_option cbv.maxSteps 4000000
set_option linter.unusedVariables false
set_option linter.unusedSimpArgs false
namespace Go.H
open Go Go.Proofs.Tryz
variable [Inv prog]
section
attribute [local go_sem] exp_eq
theorem s_spec_CmdFault (x : Cmd) : SemX prog 72 [aS (eCmd x)] [] [rI (cmdFault x)] [] := by
 refine goF [] [] [] func72 ?_
 refine D ?_
 refine kR (s_spec_l1In _ _ _) ?_
 refine D ?_
 refine cC (fun c0 => ?_) (fun c0 => ?_)
 · skip
   refine D ?_
   refine E ?_
   first
   | exact trivial
   | simp only [go_sem, cmdFault]; done
   | try simp only [go_sem, cmdFault]
     grind
 · skip
   refine D ?_
   refine kR (s_spec_l5Needs _) ?_
   refine D ?_
   refine kRg (s_spec_l5Version _) ?_
   refine D ?_
   refine kRg (s_spec_l3Name _) ?_
   refine D ?_
   refine kRg (s_spec_l2Address _) ?_
   refine D ?_
   refine kRg (s_spec_l5Number _) ?_
   refine D ?_
   refine kRg (s_spec_l5Proto _) ?_
   refine D ?_
   refine cC (fun c1 => ?_) (fun c1 => ?_)
   · skip
     refine D ?_
     refine E ?_
     first
     | exact trivial
     | simp only [go_sem, cmdFault]; done
     | try simp only [go_sem, cmdFault]
       grind
   · skip
     refine D ?_
     refine cC (fun c2 => ?_) (fun c2 => ?_)
     · skip
       refine D ?_
       refine E ?_
       first
       | exact trivial
       | simp only [go_sem, cmdFault]; done
       | try simp only [go_sem, cmdFault]
         grind
     · skip
       refine D ?_
       refine E ?_
       first
       | exact trivial
       | simp only [go_sem, cmdFault]; done
       | try simp only [go_sem, cmdFault]
         grind
end
end Go.H
end
section
set_option maxRecDepth 100000
set_option maxHeartbeats 4000000
set_option cbv.maxSteps 4000000
set_option linter.unusedVariables false
set_option linter.unusedSimpArgs false
namespace Go.H
open Go Go.Proofs.Tryz
variable [Inv prog]
theorem s_impl_needs (k : Int) : SemX prog 139 [aI k] [] [rB (nd1 k), rB (nd2 k), rB (nd3 k), rB (nd4 k)] [] := by
 refine goF [] [] [] func139 ?_
 refine D ?_
 refine kR (s_impl_in k 5 8) ?_
 refine D ?_
 refine kR (s_impl_in k 5 6) ?_
 refine D ?_
 refine E ?_
 first
 | exact trivial
 | simp only [go_sem, nd1, nd2, nd3, nd4, rB]; done
 | try simp only [go_sem, nd1, nd2, nd3, nd4, rB]
   simp
end Go.H
end
section
set_option maxRecDepth 100000
set_option maxHeartbeats 4000000
set_option cbv.maxSteps 4000000
set_option linter.unusedVariables false
set_option linter.unusedSimpArgs false
namespace Go.H
open Go Go.Proofs.Tryz
variable [Inv prog]
theorem s_impl_isNumber (x : Cmd) : SemX prog 141 [aS (eCmd x)] [] [rB (isNum x)] [] := by
 refine goF [] [] [] func141 ?_
 refine D ?_
 refine cC (fun c0 => ?_) (fun c0 => ?_)
 · skip
   refine D ?_
   refine cC (fun c1 => ?_) (fun c1 => ?_)
   · skip
     refine D ?_
     refine kR (s_impl_in _ _ _) ?_
     refine D ?_
     refine E ?_
     first
     | exact trivial
     | simp only [go_sem, isNum]; done
     | try simp only [go_sem, isNum]
       first | (exfalso; omega) | (simp [*]; done)
   · skip
     refine D ?_
     refine cC (fun c2 => ?_) (fun c2 => ?_)
     · skip
       refine D ?_
       refine kR (s_impl_in _ _ _) ?_
       refine D ?_
       refine E ?_
       first
       | exact trivial
       | simp only [go_sem, isNum]; done
       | try simp only [go_sem, isNum]
         first | (exfalso; omega) | (simp [*]; done)
     · skip
       refine D ?_
       refine cC (fun c3 => ?_) (fun c3 => ?_)
       · skip
         refine D ?_
         refine kR (s_impl_in _ _ _) ?_
         refine D ?_
         refine E ?_
         first
         | exact trivial
         | simp only [go_sem, isNum]; done
         | try simp only [go_sem, isNum]
           first | (exfalso; omega) | (simp [*]; done)
       · skip
         refine D ?_
         refine kR (s_impl_isPort _) ?_
         refine D ?_
         refine E ?_
         first
         | exact trivial
         | simp only [go_sem, isNum]; done
         | try simp only [go_sem, isNum]
           first | (exfalso; omega) | (simp [*]; done)
 · skip
   refine D ?_
   refine cC (fun c1 => ?_) (fun c1 => ?_)
   · skip
     refine D ?_
     refine kR (s_impl_in _ _ _) ?_
     refine D ?_
     refine E ?_
     first
     | exact trivial
     | simp only [go_sem, isNum]; done
     | try simp only [go_sem, isNum]
       first | (exfalso; omega) | (simp [*]; done)
   · skip
     refine D ?_
     refine cC (fun c2 => ?_) (fun c2 => ?_)
     · skip
       refine D ?_
       refine kR (s_impl_in _ _ _) ?_
       refine D ?_
       refine E ?_
       first
       | exact trivial
       | simp only [go_sem, isNum]; done
       | try simp only [go_sem, isNum]
         first | (exfalso; omega) | (simp [*]; done)
     · skip
       refine D ?_
       refine cC (fun c3 => ?_) (fun c3 => ?_)
       · skip
         refine D ?_
         refine kR (s_impl_in _ _ _) ?_
         refine D ?_
         refine E ?_
         first
         | exact trivial
         | simp only [go_sem, isNum]; done
         | try simp only [go_sem, isNum]
           first | (exfalso; omega) | (simp [*]; done)
       · skip
         refine D ?_
         refine kR (s_impl_isPort _) ?_
         refine D ?_
         refine E ?_
         first
         | exact trivial
         | simp only [go_sem, isNum]; done
         | try simp only [go_sem, isNum]
           first | (exfalso; omega) | (simp [*]; done)
end Go.H
end
section
set_option maxRecDepth 100000
set_option maxHeartbeats 4000000
set_option cbv.maxSteps 4000000
set_option linter.unusedVariables false
set_option linter.unusedSimpArgs false
namespace Go.H
open Go Go.Proofs.Tryz
variable [Inv prog]
section
attribute [local go_sem] exp_eq
theorem s_impl_CmdFault (x : Cmd) : SemX prog 77 [aS (eCmd x)] [] [rI (cmdFault x)] [] := by
 refine goF [] [] [] func77 ?_
 refine D ?_
 refine kR (s_impl_in _ _ _) ?_
 refine D ?_
 refine cC (fun c0 => ?_) (fun c0 => ?_)
 · skip
   refine D ?_
   refine E ?_
   first
   | exact trivial
   | simp only [go_sem, cmdFault]; done
   | try simp only [go_sem, cmdFault]
     grind
 · skip
   refine D ?_
   refine kR (s_impl_needs _) ?_
   refine D ?_
   refine kR (s_impl_in _ _ _) ?_
   refine D ?_
   refine kRg (s_impl_isName _) ?_
   refine D ?_
   refine kRg (s_impl_isAddress _) ?_
   refine D ?_
   refine kRg (s_impl_isNumber _) ?_
   refine D ?_
   refine kRg (s_impl_isProto _) ?_
   refine D ?_
   refine cC (fun c1 => ?_) (fun c1 => ?_)
   · skip
     refine D ?_
     refine E ?_
     first
     | exact trivial
     | simp only [go_sem, cmdFault]; done
     | try simp only [go_sem, cmdFault]
       grind
   · skip
     refine D ?_
     refine cC (fun c2 => ?_) (fun c2 => ?_)
     · skip
       refine D ?_
       refine E ?_
       first
       | exact trivial
       | simp only [go_sem, cmdFault]; done
       | try simp only [go_sem, cmdFault]
         grind
     · skip
       refine D ?_
       refine E ?_
       first
       | exact trivial
       | simp only [go_sem, cmdFault]; done
       | try simp only [go_sem, cmdFault]
         grind
end
end Go.H
end
section
set_option maxRecDepth 100000
set_option maxHeartbeats 4000000
set_option cbv.maxSteps 4000000
set_option linter.unusedVariables false
set_option linter.unusedSimpArgs false
namespace Go.H
open Go Go.Proofs.Tryz
variable [Inv prog]
theorem s_slices_Clone_Backend (xs : List Backend) (hl : xs.length ≤ 2097152) : SemX prog 149 [aT (.sl false 5 (xs.map eBackend))] [] [.one (.sl true 5 (xs.map eBackend))] [] := by
 refine goF [] [] [] func149 ?_
 refine D ?_
 refine RW_isn (fun b => xs.map eBackend ≠ [] → b = false) rfl rfl (by simp only [go_sem] <;> and_intros <;> first | with_reducible exact rfl | omega | with_reducible trivial | (intros; simp_all; done) | grind) (fun b hb => ?_)
 refine D ?_
 refine cC (fun c0 => ?_) (fun c0 => ?_)
 · skip
   have hx : xs = [] := by
     cases xs with
     | nil => rfl
     | cons a l => have := hb (by simp); rw [this] at c0; cases c0
   subst hx
   refine D ?_
   exact E trivial
 · skip
   refine D ?_
   exact E trivial
end Go.H
end
section
set_option maxRecDepth 100000
set_option maxHeartbeats 4000000
set_option cbv.maxSteps 4000000
set_option linter.unusedVariables false
set_option linter.unusedSimpArgs false
namespace Go.H
open Go Go.Proofs.Tryz
variable [Inv prog]
theorem s_slices_Clone_Vip (xs : List Vip) (hl : xs.length ≤ 2097152) : SemX prog 150 [aT (.sl false 4 (xs.map (eVip false)))] [] [.one (.sl true 4 (xs.map (eVip false)))] [] := by
 refine goF [] [] [] func150 ?_
 refine D ?_
 refine RW_isn (fun b => xs.map (eVip false) ≠ [] → b = false) rfl rfl (by simp only [go_sem] <;> and_intros <;> first | with_reducible exact rfl | omega | with_reducible trivial | (intros; simp_all; done) | grind) (fun b hb => ?_)
 refine D ?_
 refine cC (fun c0 => ?_) (fun c0 => ?_)
 · skip
   have hx : xs = [] := by
     cases xs with
     | nil => rfl
     | cons a l => have := hb (by simp); rw [this] at c0; cases c0
   subst hx
   refine D ?_
   exact E trivial
 · skip
   refine D ?_
   exact E trivial
end Go.H
end
section
set_option maxRecDepth 100000
set_option maxHeartbeats 4000000
set_option cbv.maxSteps 4000000
set_option linter.unusedVariables false
set_option linter.unusedSimpArgs false
namespace Go.H
open Go Go.Proofs.Tryz
variable [Inv prog]
theorem s_slices_Clone_int64 (xs : List Int) (hl : xs.length ≤ 2097152) : SemX prog 151 [aT (.sl false 1 (xs.map eI_i64))] [] [.one (.sl true 1 (xs.map eI_i64))] [] := by
 refine goF [] [] [] func151 ?_
 refine D ?_
 refine RW_isn (fun b => xs.map eI_i64 ≠ [] → b = false) rfl rfl (by simp only [go_sem] <;> and_intros <;> first | with_reducible exact rfl | omega | with_reducible trivial | (intros; simp_all; done) | grind) (fun b hb => ?_)
 refine D ?_
 refine cC (fun c0 => ?_) (fun c0 => ?_)
 · skip
   have hx : xs = [] := by
     cases xs with
     | nil => rfl
     | cons a l => have := hb (by simp); rw [this] at c0; cases c0
   subst hx
   refine D ?_
   exact E trivial
 · skip
   refine D ?_
   exact E trivial
end Go.H
end
section
set_option maxRecDepth 100000
set_option maxHeartbeats 4000000
set_option cbv.maxSteps 4000000
set_option linter.unusedVariables false
set_option linter.unusedSimpArgs false
namespace Go.H
open Go Go.Proofs.Tryz
variable [Inv prog]
theorem s_impl_Config_copied (c : Config) (hx : limG 2097152 c) : SemX prog 92 [aS (eConfig false c)] [] [.agg (eConfig true c)] [] := by
 refine goF [] [(1, 1, [8192], []), (1, 2, [], [32768]), (1, 4, [8192], []), (1, 5, [], [45056]), (1, 7, [8192], [8192]), (1, 9, [8192], [8192]), (5, 1, [8192], []), (5, 4, [20480], []), (5, 5, [45056], [110592]), (5, 6, [45056], []), (5, 8, [45056, 110592], [45056, 110592])] [] func92 ?_
 obtain ⟨hb, hv, hV⟩ := id hx
 refine D ?_
 refine kD (s_slices_Clone_Backend c.backends hb) ?_
 refine D ?_
 refine DW_callN (by kernel_rfl) (s_slices_Clone_Vip c.vips hv) false [] [] [] rfl rfl (by decide) trivial (by simp only [go_sem] <;> and_intros <;> first | with_reducible exact rfl | omega | with_reducible trivial | (intros; simp_all; done) | grind) (by first | rfl | (simp only [go_sem]; done)) (by simp only [go_sem]; exact rfl) ?_
 refine D ?_
 refine L (α := Nat) (fun i => [(16, .int .i64 i)]) (fun i => [(45056, .arr ⟨4, (c.vips.take i).map (eVip true) ++ (c.vips.drop i).map (eVip false), 1 + i, none⟩)]) (fun i => c.vips.length - i) (fun i => i ≤ c.vips.length) 0 [] (fun i hI => ?_)
 refine D ?_
 refine cC (fun c0 => ?_) (fun c0 => ?_)
 · skip
   have hg := mix_getD (eVip true) (eVip false) zVip (xs := c.vips) (i := i) (by omega)
   have hA := hg
   refine D ?_
   refine kD (s_slices_Clone_int64 (c.vips.getD i zVip).names (hV _ (getD_mem zVip (by omega)))) ?_
   refine D ?_
   refine lp_next (i+1) [] ?_ ?_ ?_
   · simp only [go_sem, hA] <;> and_intros <;> first | with_reducible exact rfl | (first | omega | (refine arr_eq ?_ (by omega); rw [← mix_set (eVip true) (eVip false) zVip (by omega)]; simp only [eVip]))
   · omega
   · omega
 · skip
   obtain rfl : i = c.vips.length := by omega
   refine D ?_
   refine E ?_
   first
   | exact trivial
   | rw [List.drop_length, List.map_nil, List.append_nil, List.take_of_length_le (by simp)]
end Go.H
end
section
set_option maxRecDepth 100000
set_option maxHeartbeats 4000000
set_option cbv.maxSteps 4000000
set_option linter.unusedVariables false
set_option linter.unusedSimpArgs false
namespace Go.H
open Go Go.Proofs.Tryz
variable [Inv prog]
theorem s_slices_IndexFunc_Vip (R : List Vip) (hl : R.length ≤ 2097152) (fn : Nat) (a p r : Int) (q : Vip → Bool) (hq : callB prog fn = true) (hf : ∀ b : Vip, b ∈ R → SemX prog fn [aS (eVip false b), aT (.ptr [.int .i64 a]), aT (.ptr [.int .i64 p]), aT (.ptr [.int .i64 r])] [] [rB (q b)] []) : SemX prog 193 [aT (.sl false 4 (R.map (eVip false))), .one (.fn fn [.t (.ptr [.int .i64 a]), .t (.ptr [.int .i64 p]), .t (.ptr [.int .i64 r])])] [] [rI (idxG q R)] [] := by
 refine goF [] [] [] func193 ?_
 refine D ?_
 refine L (α := Nat) (fun x => [(8, .int .i64 x)]) (fun x => []) (fun x => R.length - x) (fun x => x ≤ R.length ∧ ∀ j, j < x → q (R.getD j zVip) = false) 0 [] (fun x hL => ?_) (hi := by exact ⟨Nat.zero_le _, fun j hj => by omega⟩)
 obtain ⟨hx2, hno⟩ := hL
 refine D ?_
 refine cC (fun c0 => ?_) (fun c0 => ?_)
 · skip
   refine D ?_
   refine kR (hf (R.getD x zVip) (getD_mem zVip (by omega))) ?_ hq
   refine D ?_
   refine cC (fun c1 => ?_) (fun c1 => ?_)
   · skip
     refine D ?_
     refine E ?_
     rw [idxG_some zVip (by omega) hno c1]
   · skip
     refine D ?_
     refine N (x+1) [] (hi := ?_) (hm := ?_)
     · refine ⟨by omega, fun j hj => ?_⟩
       rcases Nat.lt_or_ge j x with h | h
       · exact hno j h
       · obtain rfl : j = x := by omega
         first | exact c1 | (simpa [isB, isV, eqI] using c1) | (simp [isB, isV, eqI]; grind)
     · omega
 · skip
   obtain rfl : x = R.length := by omega
   refine D ?_
   refine E ?_
   rw [idxG_none zVip hno]
theorem s_slices_IndexFunc_Vip_cmd (R : List Vip) (hl : R.length ≤ 2097152) (fn : Nat) (x_ : Cmd) (q : Vip → Bool) (hq : callB prog fn = true) (hf : ∀ b : Vip, b ∈ R → SemX prog fn [aS (eVip false b), aT (.ptr (eCmd x_))] [] [rB (q b)] []) : SemX prog 193 [aT (.sl false 4 (R.map (eVip false))), .one (.fn fn [.t (.ptr (eCmd x_))])] [] [rI (idxG q R)] [] := by
 refine goF [] [] [] func193 ?_
 refine D ?_
 refine L (α := Nat) (fun x => [(8, .int .i64 x)]) (fun x => []) (fun x => R.length - x) (fun x => x ≤ R.length ∧ ∀ j, j < x → q (R.getD j zVip) = false) 0 [] (fun x hL => ?_) (hi := by exact ⟨Nat.zero_le _, fun j hj => by omega⟩)
 obtain ⟨hx2, hno⟩ := hL
 refine D ?_
 refine cC (fun c0 => ?_) (fun c0 => ?_)
 · skip
   refine D ?_
   refine kR (hf (R.getD x zVip) (getD_mem zVip (by omega))) ?_ hq
   refine D ?_
   refine cC (fun c1 => ?_) (fun c1 => ?_)
   · skip
     refine D ?_
     refine E ?_
     rw [idxG_some zVip (by omega) hno c1]
   · skip
     refine D ?_
     refine N (x+1) [] (hi := ?_) (hm := ?_)
     · refine ⟨by omega, fun j hj => ?_⟩
       rcases Nat.lt_or_ge j x with h | h
       · exact hno j h
       · obtain rfl : j = x := by omega
         first | exact c1 | (simpa [isB, isV, eqI] using c1) | (simp [isB, isV, eqI]; grind)
     · omega
 · skip
   obtain rfl : x = R.length := by omega
   refine D ?_
   refine E ?_
   rw [idxG_none zVip hno]
end Go.H
end
section
set_option maxRecDepth 100000
set_option maxHeartbeats 4000000
set_option cbv.maxSteps 4000000
set_option linter.unusedVariables false
set_option linter.unusedSimpArgs false
namespace Go.H
open Go Go.Proofs.Tryz
variable [Inv prog]
theorem s_impl_Config_vip_1 (v : Vip) (a p q : Int) : SemX prog 194 [aS (eVip false v), aT (.ptr [.int .i64 a]), aT (.ptr [.int .i64 p]), aT (.ptr [.int .i64 q])] [] [rB (isV a p q v)] [] := by
 refine goF [] [] [] func194 ?_
 refine D ?_
 refine E ?_
 first
 | exact trivial
 | simp only [go_sem, isV]
end Go.H
end
section
set_option maxRecDepth 100000
set_option maxHeartbeats 4000000
set_option cbv.maxSteps 4000000
set_option linter.unusedVariables false
set_option linter.unusedSimpArgs false
namespace Go.H
open Go Go.Proofs.Tryz
variable [Inv prog]
theorem s_impl_Config_vip (c : Config) (hx : limG 2097152 c) (a p r : Int) : SemX prog 179 [aT (.ptr (eConfig false c)), aI a, aI p, aI r] [] [rI (findV c.vips a p r)] [] := by
 refine goF [] [] [] func179 ?_
 obtain ⟨hb, hv, hV⟩ := id hx
 refine D ?_
 refine kR (s_slices_IndexFunc_Vip c.vips hv 194 a p r (isV a p r) (by kernel_rfl) (fun v _ => s_impl_Config_vip_1 v a p r)) ?_
 refine D ?_
 refine E ?_
 first
 | exact trivial
 | simp only [go_sem, findV]
end Go.H
end
section
set_option maxRecDepth 100000
set_option maxHeartbeats 4000000
set_option cbv.maxSteps 4000000
set_option linter.unusedVariables false
set_option linter.unusedSimpArgs false
namespace Go.H
open Go Go.Proofs.Tryz
variable [Inv prog]
theorem s_slices_insertionSortCmpFunc_Backend (R : List Backend) (b : Backend) (k : Nat) (fn : Nat) (cm : Backend → Backend → Int) (hq : callB prog fn = true) (hf : ∀ p q : Backend, SemX prog fn [aS (eBackend p), aS (eBackend q)] [] [rI (cm p q)] []) (hk : k ≤ R.length) (hl : R.length ≤ 11) (h1 : ∀ q, k ≤ q → q < R.length → cm b (R.getD q zBackend) < 0) (h2 : ∀ q, q < k → ¬ cm b (R.getD q zBackend) < 0) (h3 : ∀ i, 0 < i → i < R.length → ¬ cm (R.getD i zBackend) (R.getD (i - 1) zBackend) < 0) : SemX prog 206 [.one (.arr 0), aI 0, aI (R.length + 1), .one (.fn fn [])] [.arr 5 ((R ++ [b]).map eBackend)] [] [.arr 5 ((insAt R b k).map eBackend)] := by
 refine goF [] [(4, 7, [1000000], []), (4, 8, [1000000], []), (4, 12, [1000000], []), (4, 13, [1000000], []), (6, 8, [1000000], []), (6, 9, [1000000], []), (6, 12, [1000000], []), (6, 13, [1000000], []), (6, 14, [1000000], []), (6, 15, [1000000], [1000000]), (6, 16, [1000000], []), (6, 17, [1000000], [1000000])] [] func206 ?_
 refine D ?_
 refine L (α := Nat) (fun x => [(8, .int .i64 x)]) (fun x => [(1000000, .arr ⟨5, (rowO R b k x).map eBackend, verO R k x, none⟩)]) (fun x => R.length + 1 - x) (fun x => 1 ≤ x ∧ x ≤ R.length + 1) 1 [] (fun x hL => ?_) (by simp only [go_sem] <;> and_intros <;> first | with_reducible exact rfl | (first | omega | (refine arr_eq ?_ ?_ <;> simp only [rowO_one R b hk, verO_one R hk]; done))) (by exact ⟨by omega, by omega⟩)
 obtain ⟨hx1, hx2⟩ := hL
 refine D ?_
 refine cC (fun c0 => ?_) (fun c0 => ?_)
 · skip
   have hxl : x ≤ R.length := by omega
   refine D ?_
   refine L (α := Nat) (fun j => [(9, .int .i64 j)]) (fun j => [(1000000, .arr ⟨5, (rowI R b x j).map eBackend, 1 + 2 * (x - j), none⟩)]) (fun j => j) (fun j => j ≤ x ∧ (x < R.length → j = x) ∧ (x = R.length → k ≤ j)) x [] (fun j hL => ?_) (by simp only [go_sem] <;> and_intros <;> first | with_reducible exact rfl | (first | omega | (refine arr_eq (by rw [rowO_in R b k hxl, rowI_self R b hxl]) (by have := verO_in R k hxl; omega)))) (by exact ⟨Nat.le_refl _, fun _ => rfl, fun h => by omega⟩)
   obtain ⟨hj, hjx, hkj⟩ := hL
   refine D ?_
   refine kDg (hf ((rowI R b x j).getD j zBackend) ((rowI R b x j).getD (j - 1) zBackend)) ?_ hq
   refine D ?_
   refine cC (fun c1 => ?_) (fun c1 => ?_)
   · skip
     have hc : 0 < j ∧ cm ((rowI R b x j).getD j zBackend) ((rowI R b x j).getD (j - 1) zBackend) < 0 := by simpa using c1
     have hgo := rowI_go zBackend hxl hj h3 hjx h2 hc
     have hg : ∀ r, (((rowI R b x j).map eBackend).set j r).getD (j - 1) dBackend = eBackend (((rowI R b x j).getD (j - 1) zBackend)) := fun r => by
       rw [List.getD_eq_getElem?_getD, List.getElem?_set_ne (by omega), ← List.getD_eq_getElem?_getD]
       simp only [go_sem]
     have hA := hg
     refine D ?_
     refine lp_next (j - 1) [] ?_ ?_ ?_
     · simp only [go_sem, hA] <;> and_intros <;> first | with_reducible exact rfl | (first | omega | (refine int_eq ?_; omega) | (refine arr_eq (by simpa only [eBackend] using rowI_swap eBackend R b zBackend hgo.1 hj hc.1) (by omega)))
     · exact ⟨by omega, fun h => by omega, fun h => by omega⟩
     · omega
   · skip
     have hc : ¬ (0 < j ∧ cm ((rowI R b x j).getD j zBackend) ((rowI R b x j).getD (j - 1) zBackend) < 0) := by simpa using c1
     have hend := rowI_end zBackend hxl hj h1 hkj hc
     refine D ?_
     refine lp_next (x+1) [] ?_ ?_ ?_
     · simp only [go_sem] <;> and_intros <;> first | with_reducible exact rfl | (first | omega | (refine int_eq ?_; omega) | (refine arr_eq ?_ ?_ <;> first | rw [hend.1] | (unfold verO; split <;> omega)))
     · omega
     · omega
 · skip
   obtain rfl : x = R.length + 1 := by omega
   refine D ?_
   refine E ?_
   first
   | exact trivial
   | rw [rowO_out]
end Go.H
end
section
set_option maxRecDepth 100000
set_option maxHeartbeats 4000000
set_option cbv.maxSteps 4000000
set_option linter.unusedVariables false
set_option linter.unusedSimpArgs false
namespace Go.H
open Go Go.Proofs.Tryz
variable [Inv prog]
theorem s_slices_pdqsortCmpFunc_Backend (R : List Backend) (b : Backend) (k : Nat) (fn : Nat) (cm : Backend → Backend → Int) (hq : callB prog fn = true) (hf : ∀ p q : Backend, SemX prog fn [aS (eBackend p), aS (eBackend q)] [] [rI (cm p q)] []) (hk : k ≤ R.length) (hl : R.length ≤ 11) (h1 : ∀ q, k ≤ q → q < R.length → cm b (R.getD q zBackend) < 0) (h2 : ∀ q, q < k → ¬ cm b (R.getD q zBackend) < 0) (h3 : ∀ i, 0 < i → i < R.length → ¬ cm (R.getD i zBackend) (R.getD (i - 1) zBackend) < 0) (lim : Int) : SemX prog 195 [.one (.arr 0), aI 0, aI (R.length + 1), aI lim, .one (.fn fn [])] [.arr 5 ((R ++ [b]).map eBackend)] [] [.arr 5 ((insAt R b k).map eBackend)] := by
 refine goF [] [] [] func195 ?_
 refine D ?_
 refine L (α := Nat) (fun x => []) (fun x => []) (fun x => 0) (fun x => True) 0 [] (fun x hI => ?_) (hi := by trivial)
 refine D ?_
 refine cC (fun c0 => ?_) (fun c0 => ?_)
 · skip
   refine D ?_
   refine kRk [1000000] [] [] (s_slices_insertionSortCmpFunc_Backend R b k fn cm hq hf hk hl h1 h2 h3) ?_
   refine D ?_
   exact E trivial
 · skip
   omega
end Go.H
end
section
set_option maxRecDepth 100000
set_option maxHeartbeats 4000000
set_option cbv.maxSteps 4000000
set_option linter.unusedVariables false
set_option linter.unusedSimpArgs false
namespace Go.H
open Go Go.Proofs.Tryz
variable [Inv prog]
theorem s_math_bits_Len64 (n : Nat) (hn : n ≤ 12) : SemX prog 215 [.one (.t (.int .u64 n))] [] [rI (if n = 0 then 0 else if n < 2 then 1 else if n < 4 then 2 else if n < 8 then 3 else 4 : Int)] [] := by
 refine goF [] [] [] func215 ?_
 refine D ?_
 refine cC (fun c0 => ?_) (fun c0 => ?_)
 · skip
   exfalso
   omega
 · skip
   refine D ?_
   refine cC (fun c1 => ?_) (fun c1 => ?_)
   · skip
     exfalso
     omega
   · skip
     refine D ?_
     refine cC (fun c2 => ?_) (fun c2 => ?_)
     · skip
       exfalso
       omega
     · skip
       refine D ?_
       refine E ?_
       rcases (by omega : n = 0 ∨ n = 1 ∨ n = 2 ∨ n = 3 ∨ n = 4 ∨ n = 5 ∨ n = 6 ∨ n = 7 ∨ n = 8 ∨ n = 9 ∨ n = 10 ∨ n = 11 ∨ n = 12) with rfl | rfl | rfl | rfl | rfl | rfl | rfl | rfl | rfl | rfl | rfl | rfl | rfl
       all_goals exact ⟨by decide, ⟨by decide, by decide⟩, rfl⟩
end Go.H
end
section
set_option maxRecDepth 100000
set_option maxHeartbeats 4000000
set_option cbv.maxSteps 4000000
set_option linter.unusedVariables false
set_option linter.unusedSimpArgs false
namespace Go.H
open Go Go.Proofs.Tryz
variable [Inv prog]
theorem s_math_bits_Len (n : Nat) (hn : n ≤ 12) : SemX prog 196 [.one (.t (.int .u64 n))] [] [rI (if n = 0 then 0 else if n < 2 then 1 else if n < 4 then 2 else if n < 8 then 3 else 4 : Int)] [] := by
 refine goF [] [] [] func196 ?_
 refine D ?_
 refine cF ?_
 refine D ?_
 refine kR (s_math_bits_Len64 n hn) ?_
 refine D ?_
 exact E trivial
end Go.H
end
section
set_option maxRecDepth 100000
set_option maxHeartbeats 4000000
set_option cbv.maxSteps 4000000
set_option linter.unusedVariables false
set_option linter.unusedSimpArgs false
namespace Go.H
open Go Go.Proofs.Tryz
variable [Inv prog]
theorem s_slices_SortFunc_Backend (R : List Backend) (b : Backend) (k : Nat) (fn : Nat) (cm : Backend → Backend → Int) (hq : callB prog fn = true) (hf : ∀ p q : Backend, SemX prog fn [aS (eBackend p), aS (eBackend q)] [] [rI (cm p q)] []) (hk : k ≤ R.length) (hl : R.length ≤ 11) (h1 : ∀ q, k ≤ q → q < R.length → cm b (R.getD q zBackend) < 0) (h2 : ∀ q, q < k → ¬ cm b (R.getD q zBackend) < 0) (h3 : ∀ i, 0 < i → i < R.length → ¬ cm (R.getD i zBackend) (R.getD (i - 1) zBackend) < 0) : SemX prog 180 [.one (.arr 0), .one (.fn fn [])] [.arr 5 ((R ++ [b]).map eBackend)] [] [.arr 5 ((insAt R b k).map eBackend)] := by
 refine goF [] [] [] func180 ?_
 have hwu : IntKind.u64.wrap ((R.length : Int) + 1) = (R.length : Int) + 1 := by
   have := wrap_u (R.length + 1) (by omega)
   simpa using this
 have hA := hwu
 refine D ?_
 refine kR (s_math_bits_Len (R.length + 1) (by omega)) ?_
 refine D ?_
 refine kRk [1000000] [] [] (s_slices_pdqsortCmpFunc_Backend R b k fn cm hq hf hk hl h1 h2 h3 (if (R.length + 1) = 0 then 0 else if (R.length + 1) < 2 then 1 else if (R.length + 1) < 4 then 2 else if (R.length + 1) < 8 then 3 else 4 : Int)) ?_
 refine D ?_
 exact E trivial
end Go.H
end
section
set_option maxRecDepth 100000
set_option maxHeartbeats 4000000
set_option cbv.maxSteps 4000000
set_option linter.unusedVariables false
set_option linter.unusedSimpArgs false
namespace Go.H
open Go Go.Proofs.Tryz
variable [Inv prog]
theorem s_impl_Config_does_1 (p q : Backend) : SemX prog 181 [aS (eBackend p), aS (eBackend q)] [] [rI (cmpB p q)] [] := by
 refine goF [] [] [] func181 ?_
 refine D ?_
 refine kR (s_cmp_Compare_int64 p.name q.name) ?_
 refine D ?_
 refine E ?_
 first
 | exact trivial
 | simp only [go_sem, cmpB]
end Go.H
end
section
set_option linter.unusedVariables false
set_option linter.unusedSimpArgs false
namespace Go.H
open Go
theorem noShR_RV (xs : List RVp) : T.noShR (xs.map eRV) = True := noShR_map _ (fun _ => by simp [eRV, T.noShL, T.noSh]) xs
attribute [go_sem] noShR_RV
theorem turned_ver (c : Config) (x : Cmd) : (turned c x).2.version = c.version := by
  unfold turned turnV turnB
  repeat' split
  all_goals rfl
theorem mkL_take {α : Type} (f : α → Int → α) (s : α → Int → Int) (xs : List α) (k : Int) : List.take xs.length (mkL f s xs k) = mkL f s xs k := List.take_of_length_le (by rw [mkL_length]; exact Nat.le_refl _)
theorem flat_Se (xs : List Session) : ∀ r ∈ xs.map eSession, ∀ t ∈ r, t.flat = true := by
  intro r hr t ht
  simp only [List.mem_map] at hr
  obtain ⟨x, _, rfl⟩ := hr
  simp only [eSession, List.mem_cons, List.not_mem_nil, or_false] at ht
  rcases ht with rfl | rfl | rfl <;> rfl
end Go.H
end
section
set_option maxRecDepth 100000
set_option maxHeartbeats 4000000
set_option cbv.maxSteps 4000000
set_option linter.unusedVariables false
set_option linter.unusedSimpArgs false
namespace Go.H
open Go Go.Proofs.Tryz
variable [Inv prog]
section
attribute [local go_sem] eRV
theorem s_slices_insertionSortCmpFunc_Vip (R : List RVp) (b : RVp) (k : Nat) (fn : Nat) (cm : RVp → RVp → Int) (hq : callB prog fn = true) (hf : ∀ p q : RVp, SemX prog fn [aS (eRV p), aS (eRV q)] [] [rI (cm p q)] []) (hk : k ≤ R.length) (hl : R.length ≤ 11) (h1 : ∀ q, k ≤ q → q < R.length → cm b (R.getD q zRV) < 0) (h2 : ∀ q, q < k → ¬ cm b (R.getD q zRV) < 0) (h3 : ∀ i, 0 < i → i < R.length → ¬ cm (R.getD i zRV) (R.getD (i - 1) zRV) < 0) : SemX prog 216 [.one (.arr 0), aI 0, aI (R.length + 1), .one (.fn fn [])] [.arr 4 ((R ++ [b]).map eRV)] [] [.arr 4 ((insAt R b k).map eRV)] := by
 refine goF [(54, ⟨none, none, some (90001, true), none⟩), (64, ⟨none, none, some (90001, true), none⟩), (94, ⟨none, none, some (90001, true), none⟩), (102, ⟨none, none, some (90001, true), none⟩), (105, ⟨none, none, some (90001, true), none⟩), (107, ⟨none, none, some (90001, true), none⟩)] [(4, 7, [1000000], []), (4, 8, [1000000], []), (4, 12, [1000000], []), (4, 13, [1000000], []), (4, 14, [1000000], []), (6, 8, [1000000], []), (6, 9, [1000000], []), (6, 12, [1000000], []), (6, 13, [1000000], []), (6, 14, [1000000], []), (6, 15, [1000000], [1000000]), (6, 16, [1000000], []), (6, 17, [1000000], [1000000])] [] func216 ?_
 refine D ?_
 refine L (α := Nat) (fun x => [(8, .int .i64 x)]) (fun x => [(1000000, .arr ⟨4, (rowO R b k x).map eRV, verO R k x, none⟩)]) (fun x => R.length + 1 - x) (fun x => 1 ≤ x ∧ x ≤ R.length + 1) 1 [] (fun x hL => ?_) (by simp only [go_sem] <;> and_intros <;> first | with_reducible exact rfl | (first | omega | (refine arr_eq ?_ ?_ <;> simp only [rowO_one R b hk, verO_one R hk]; done))) (by exact ⟨by omega, by omega⟩)
 obtain ⟨hx1, hx2⟩ := hL
 refine D ?_
 refine cC (fun c0 => ?_) (fun c0 => ?_)
 · skip
   have hxl : x ≤ R.length := by omega
   refine D ?_
   refine L (α := Nat) (fun j => [(9, .int .i64 j)]) (fun j => [(1000000, .arr ⟨4, (rowI R b x j).map eRV, 1 + 2 * (x - j), none⟩)]) (fun j => j) (fun j => j ≤ x ∧ (x < R.length → j = x) ∧ (x = R.length → k ≤ j)) x [] (fun j hL => ?_) (by simp only [go_sem] <;> and_intros <;> first | with_reducible exact rfl | (first | omega | (refine arr_eq (by rw [rowO_in R b k hxl, rowI_self R b hxl]) (by have := verO_in R k hxl; omega)))) (by exact ⟨Nat.le_refl _, fun _ => rfl, fun h => by omega⟩)
   obtain ⟨hj, hjx, hkj⟩ := hL
   refine D ?_
   refine kDg (hf ((rowI R b x j).getD j zRV) ((rowI R b x j).getD (j - 1) zRV)) ?_ hq
   refine D ?_
   refine cC (fun c1 => ?_) (fun c1 => ?_)
   · skip
     have hc : 0 < j ∧ cm ((rowI R b x j).getD j zRV) ((rowI R b x j).getD (j - 1) zRV) < 0 := by simpa using c1
     have hgo := rowI_go zRV hxl hj h3 hjx h2 hc
     have hg : ∀ r, (((rowI R b x j).map eRV).set j r).getD (j - 1) dRV = eRV (((rowI R b x j).getD (j - 1) zRV)) := fun r => by
       rw [List.getD_eq_getElem?_getD, List.getElem?_set_ne (by omega), ← List.getD_eq_getElem?_getD]
       simp only [go_sem]
     have hA := hg
     refine D ?_
     refine lp_next (j - 1) [] ?_ ?_ ?_
     · simp only [go_sem, hA] <;> and_intros <;> first | with_reducible exact rfl | (first | omega | (refine int_eq ?_; omega) | (refine arr_eq (by simpa only [eRV] using rowI_swap eRV R b zRV hgo.1 hj hc.1) (by omega)))
     · exact ⟨by omega, fun h => by omega, fun h => by omega⟩
     · omega
   · skip
     have hc : ¬ (0 < j ∧ cm ((rowI R b x j).getD j zRV) ((rowI R b x j).getD (j - 1) zRV) < 0) := by simpa using c1
     have hend := rowI_end zRV hxl hj h1 hkj hc
     refine D ?_
     refine lp_next (x+1) [] ?_ ?_ ?_
     · simp only [go_sem] <;> and_intros <;> first | with_reducible exact rfl | (first | omega | (refine int_eq ?_; omega) | (refine arr_eq ?_ ?_ <;> first | rw [hend.1] | (unfold verO; split <;> omega)))
     · omega
     · omega
 · skip
   obtain rfl : x = R.length + 1 := by omega
   refine D ?_
   refine E ?_
   first
   | exact trivial
   | rw [rowO_out]
end
end Go.H
end
section
set_option maxRecDepth 100000
set_option maxHeartbeats 4000000
set_option cbv.maxSteps 4000000
set_option linter.unusedVariables false
set_option linter.unusedSimpArgs false
namespace Go.H
open Go Go.Proofs.Tryz
variable [Inv prog]
section
attribute [local go_sem] eRV
theorem s_slices_pdqsortCmpFunc_Vip (R : List RVp) (b : RVp) (k : Nat) (fn : Nat) (cm : RVp → RVp → Int) (hq : callB prog fn = true) (hf : ∀ p q : RVp, SemX prog fn [aS (eRV p), aS (eRV q)] [] [rI (cm p q)] []) (hk : k ≤ R.length) (hl : R.length ≤ 11) (h1 : ∀ q, k ≤ q → q < R.length → cm b (R.getD q zRV) < 0) (h2 : ∀ q, q < k → ¬ cm b (R.getD q zRV) < 0) (h3 : ∀ i, 0 < i → i < R.length → ¬ cm (R.getD i zRV) (R.getD (i - 1) zRV) < 0) (lim : Int) : SemX prog 197 [.one (.arr 0), aI 0, aI (R.length + 1), aI lim, .one (.fn fn [])] [.arr 4 ((R ++ [b]).map eRV)] [] [.arr 4 ((insAt R b k).map eRV)] := by
 refine goF [] [] [] func197 ?_
 refine D ?_
 refine L (α := Nat) (fun x => []) (fun x => []) (fun x => 0) (fun x => True) 0 [] (fun x hI => ?_) (hi := by trivial)
 refine D ?_
 refine cC (fun c0 => ?_) (fun c0 => ?_)
 · skip
   refine D ?_
   refine kRk [1000000] [] [] (s_slices_insertionSortCmpFunc_Vip R b k fn cm hq hf hk hl h1 h2 h3) ?_
   refine D ?_
   exact E trivial
 · skip
   omega
end
end Go.H
end
section
set_option maxRecDepth 100000
set_option maxHeartbeats 4000000
set_option cbv.maxSteps 4000000
set_option linter.unusedVariables false
set_option linter.unusedSimpArgs false
namespace Go.H
open Go Go.Proofs.Tryz
variable [Inv prog]
section
attribute [local go_sem] eRV
theorem s_slices_SortFunc_Vip_raw (R : List RVp) (b : RVp) (k : Nat) (fn : Nat) (cm : RVp → RVp → Int) (hq : callB prog fn = true) (hf : ∀ p q : RVp, SemX prog fn [aS (eRV p), aS (eRV q)] [] [rI (cm p q)] []) (hk : k ≤ R.length) (hl : R.length ≤ 11) (h1 : ∀ q, k ≤ q → q < R.length → cm b (R.getD q zRV) < 0) (h2 : ∀ q, q < k → ¬ cm b (R.getD q zRV) < 0) (h3 : ∀ i, 0 < i → i < R.length → ¬ cm (R.getD i zRV) (R.getD (i - 1) zRV) < 0) : SemX prog 182 [.one (.arr 0), .one (.fn fn [])] [.arr 4 ((R ++ [b]).map eRV)] [] [.arr 4 ((insAt R b k).map eRV)] := by
 refine goF [] [] [] func182 ?_
 have hwu : IntKind.u64.wrap ((R.length : Int) + 1) = (R.length : Int) + 1 := by
   have := wrap_u (R.length + 1) (by omega)
   simpa using this
 have hA := hwu
 refine D ?_
 refine kR (s_math_bits_Len (R.length + 1) (by omega)) ?_
 refine D ?_
 refine kRk [1000000] [] [] (s_slices_pdqsortCmpFunc_Vip R b k fn cm hq hf hk hl h1 h2 h3 (if (R.length + 1) = 0 then 0 else if (R.length + 1) < 2 then 1 else if (R.length + 1) < 4 then 2 else if (R.length + 1) < 8 then 3 else 4 : Int)) ?_
 refine D ?_
 exact E trivial
end
theorem s_slices_SortFunc_Vip (R : List Vip) (b : Vip) (k : Nat) (fn : Nat) (cm : Vip → Vip → Int) (hq : callB prog fn = true) (hf : ∀ p q : RVp, SemX prog fn [aS (eRV p), aS (eRV q)] [] [rI (cm p.1 q.1)] []) (hk : k ≤ R.length) (hl : R.length ≤ 11) (h1 : ∀ q, k ≤ q → q < R.length → cm b (R.getD q zVip) < 0) (h2 : ∀ q, q < k → ¬ cm b (R.getD q zVip) < 0) (h3 : ∀ i, 0 < i → i < R.length → ¬ cm (R.getD i zVip) (R.getD (i - 1) zVip) < 0) : SemX prog 182 [.one (.arr 0), .one (.fn fn [])] [.arr 4 ((R ++ [b]).map (eVip true))] [] [.arr 4 ((insAt R b k).map (eVip true))] := by
  refine SemX_rawVip fun R' b' e1 e2 => ?_
  subst e1 e2
  simp only [List.length_map] at hk hl h1 h3
  simp only [fst_RV] at h1 h2 h3
  exact s_slices_SortFunc_Vip_raw R' b' k fn (fun p q => cm p.1 q.1) hq hf hk hl h1 h2 h3
end Go.H
end
section
set_option maxRecDepth 100000
set_option maxHeartbeats 4000000
set_option cbv.maxSteps 4000000
set_option linter.unusedVariables false
set_option linter.unusedSimpArgs false
namespace Go.H
open Go Go.Proofs.Tryz
variable [Inv prog]
theorem s_slices_Delete_Vip (R : List (List T)) (i j : Nat) (hij : i < j) (hj : j ≤ R.length) (hl : R.length ≤ 2097152) (hs : cpRows none (R.drop j) = True) (hn : T.noShR (R.take i ++ R.drop j) = True) : SemX prog 183 [.one (.t (.sl true 4 R)), aI i, aI j] [] [.one (.sl true 4 (R.take i ++ R.drop j))] [] := by
 refine goF [(54, ⟨some 7, none, none, none⟩)] [(5, 2, [0], []), (5, 5, [0], []), (5, 6, [0], [0])] [] func183 ?_
 have hA := hs
 refine D ?_
 refine cC (fun c0 => ?_) (fun c0 => ?_)
 · skip
   omega
 · skip
   refine D ?_
   refine E ?_
   rw [if_pos (by omega)]
   exact ⟨congrArg (fun r => [TV.one (T.sl true 4 r)]) (del_rowsR R (by omega) hj _ _ _), rfl, rfl⟩
end Go.H
end
section
set_option maxRecDepth 100000
set_option maxHeartbeats 4000000
set_option cbv.maxSteps 4000000
set_option linter.unusedVariables false
set_option linter.unusedSimpArgs false
namespace Go.H
open Go Go.Proofs.Tryz
variable [Inv prog]
theorem s_cmp_Less_int64 (a b : Int) : SemX prog 224 [aI a, aI b] [] [rB (decide (a < b))] [] := by
 refine goF [] [] [] func224 ?_
 refine D ?_
 refine kR (s_cmp_isNaN_int64 _) ?_
 refine D ?_
 refine kRg (s_cmp_isNaN_int64 _) ?_
 refine D ?_
 exact E trivial
end Go.H
end
section
set_option maxRecDepth 100000
set_option maxHeartbeats 4000000
set_option cbv.maxSteps 4000000
set_option linter.unusedVariables false
set_option linter.unusedSimpArgs false
namespace Go.H
open Go Go.Proofs.Tryz
variable [Inv prog]
theorem s_slices_isNaN_int64 (a : Int) : SemX prog 225 [aI a] [] [rB false] [] := by
 refine goF [] [] [] func225 ?_
 refine D ?_
 exact E trivial
end Go.H
end
section
set_option maxRecDepth 100000
set_option maxHeartbeats 4000000
set_option cbv.maxSteps 4000000
set_option linter.unusedVariables false
set_option linter.unusedSimpArgs false
namespace Go.H
open Go Go.Proofs.Tryz
variable [Inv prog]
theorem s_slices_BinarySearch_int64 (xs : List Int) (v : Int) (hr : rises xs) (hl : xs.length ≤ 2097152) : SemX prog 198 [aT (.sl false 1 (xs.map eI_i64)), aI v] [] [rI (lbn xs v), rB (hasI xs v)] [] := by
 refine goF [] [] [] func198 ?_
 refine D ?_
 refine L (α := Nat × Nat) (fun p => [(7, .int .i64 p.1), (8, .int .i64 p.2)]) (fun p => []) (fun p => p.2 - p.1) (fun p => p.1 ≤ p.2 ∧ p.2 ≤ xs.length ∧ (∀ q, q < p.1 → xs.getD q zI_i64 < v) ∧ (∀ q, p.2 ≤ q → q < xs.length → v ≤ xs.getD q zI_i64)) (0, xs.length) [] (fun x0 hL => ?_) (hi := by exact ⟨Nat.zero_le _, Nat.le_refl _, fun q h => by omega, fun q h1 h2 => by omega⟩)
 obtain ⟨i, j⟩ := x0
 obtain ⟨hij, hj, hlo, hup⟩ := hL
 try dsimp only at *
 refine D ?_
 refine cC (fun c0 => ?_) (fun c0 => ?_)
 · skip
   have hhf := half_nat i j (by omega)
   have hw1 : IntKind.u64.wrap ((i : Int) + j) = i + j := by have := wrap_u (i + j) (by omega); simpa using this
   have hw2 : IntKind.i64.wrap (((i + j) / 2 : Nat) : Int) = ((i + j) / 2 : Nat) := wrap_small (by omega) (by omega)
   have hA := And.intro hhf (And.intro hw1 (hw2))
   refine D ?_
   refine kR (s_cmp_Less_int64 _ _) ?_
   refine D ?_
   refine cC (fun c1 => ?_) (fun c1 => ?_)
   · skip
     refine D ?_
     refine N ((i + j) / 2 + 1, j) [] (hi := ?_) (hm := ?_)
     · dsimp only
       refine ⟨by omega, by omega, fun q hq => ?_, hup⟩
       by_cases e : q = (i + j) / 2
       · subst e; exact c1
       · have := rises_lt hr (i := q) (j := (i + j) / 2) (by omega) (by omega); omega
     · try dsimp only
       omega
   · skip
     refine D ?_
     refine N (i, (i + j) / 2) [] (hi := ?_) (hm := ?_)
     · dsimp only
       refine ⟨by omega, by omega, hlo, fun q h1 h2 => ?_⟩
       by_cases e : q = (i + j) / 2
       · subst e; omega
       · have := rises_lt hr (i := (i + j) / 2) (j := q) (by omega) (by omega); omega
     · try dsimp only
       omega
 · skip
   refine D ?_
   refine kRg (s_slices_isNaN_int64 _) ?_
   refine D ?_
   refine kRg (s_slices_isNaN_int64 _) ?_
   refine D ?_
   refine E ?_
   first
   | exact trivial
   | have hb : lbn xs v = i := lbn_eq (by omega) hlo (fun h => hup i (by omega) h)
     simp [hasI, hb]
end Go.H
end
section
set_option maxRecDepth 100000
set_option maxHeartbeats 4000000
set_option cbv.maxSteps 4000000
set_option linter.unusedVariables false
set_option linter.unusedSimpArgs false
namespace Go.H
open Go Go.Proofs.Tryz
variable [Inv prog]
theorem s_slices_Delete_int64 (R : List (List T)) (i j : Nat) (hij : i < j) (hj : j ≤ R.length) (hl : R.length ≤ 2097152) (hs : cpRows none (R.drop j) = True) (hn : T.noShR (R.take i ++ R.drop j) = True) : SemX prog 199 [.one (.t (.sl true 1 R)), aI i, aI j] [] [.one (.sl true 1 (R.take i ++ R.drop j))] [] := by
 refine goF [(54, ⟨some 7, none, none, none⟩)] [(5, 2, [0], []), (5, 5, [0], []), (5, 6, [0], [0])] [] func199 ?_
 have hA := hs
 refine D ?_
 refine cC (fun c0 => ?_) (fun c0 => ?_)
 · skip
   omega
 · skip
   refine D ?_
   refine E ?_
   rw [if_pos (by omega)]
   exact ⟨congrArg (fun r => [TV.one (T.sl true 1 r)]) (del_rowsR R (by omega) hj _ _ _), rfl, rfl⟩
end Go.H
end
section
set_option maxRecDepth 100000
set_option maxHeartbeats 4000000
set_option cbv.maxSteps 4000000
set_option linter.unusedVariables false
set_option linter.unusedSimpArgs false
namespace Go.H
open Go Go.Proofs.Tryz
variable [Inv prog]
theorem s_slices_Insert_int64 (R V : List (List T)) (i : Nat) (hi : i ≤ R.length) (hv : 1 ≤ V.length) (hl : R.length + V.length ≤ 2097152) (fR : ∀ r ∈ R, ∀ t ∈ r, t.flat = true) (fV : ∀ r ∈ V, ∀ t ∈ r, t.flat = true) : SemX prog 200 [.one (.t (.sl true 1 R)), aI i, .one (.t (.sl true 1 V))] [] [.one (.sl true 1 (R.take i ++ V ++ R.drop i))] [] := by
 refine goFC 0 [(82, ⟨none, none, some (2, true), none⟩), (110, ⟨some 10, none, none, none⟩), (156, ⟨some 10, none, none, none⟩)] [(11, 4, [167936], []), (11, 7, [0], []), (11, 8, [167936, 0], [167936]), (15, 4, [0], []), (15, 7, [0], []), (15, 8, [0], [0])] [] func200 (fun cp hcp hcp2 => ?_)
 have hcp3 : R.length ≤ cp := hcp
 have hcV : cpRows (some (0, 0)) V = True := eq_true fV
 have hcT : cpRows (some (0, 0)) (List.take i R) = True := eq_true fun r hr => fR r (List.mem_of_mem_take hr)
 have hcD : cpRows (some (0, 0)) (List.drop i R) = True := eq_true fun r hr => fR r (List.mem_of_mem_drop hr)
 have hX1 : List.take i (R ++ roomR 1 (cp - R.length)) = List.take i R := List.take_append_of_le_length hi
 have hX2 : List.take R.length (R ++ roomR 1 (cp - R.length)) = R := List.take_left' rfl
 have hX3 : List.take (R.length - i) (List.drop i (R ++ roomR 1 (cp - R.length))) = List.drop i R := by rw [List.drop_append_of_le_length hi]; exact List.take_left' (by simp)
 have hA := And.intro hcV (And.intro hcT (And.intro hcD (And.intro hX1 (And.intro hX2 (hX3)))))
 refine D ?_
 refine cC (fun c0 => ?_) (fun c0 => ?_)
 · skip
   omega
 · skip
   refine D ?_
   refine cC (fun c1 => ?_) (fun c1 => ?_)
   · skip
     refine D ?_
     refine E ?_
     obtain rfl : i = R.length := by omega
     simp [List.take_of_length_le]
   · skip
     refine D ?_
     refine cC (fun c2 => ?_) (fun c2 => ?_)
     · skip
       refine D ?_
       refine E ?_
       rw [if_pos (by omega)]
       exact ⟨congrArg (fun r => [TV.one (T.sl true 1 r)]) (ins_grow (by omega) (by omega) (by omega) (by omega) (by omega)), rfl, rfl⟩
     · skip
       refine D ?_
       refine kOv (⟨_, 156, 4, 2, 1, func226, by kernel_rfl, by kernel_rfl, by kernel_rfl, by kernel_rfl, by kernel_rfl, by kernel_rfl⟩ : OvlOk prog 226) ?_
       refine D ?_
       refine cT ?_
       refine D ?_
       refine E ?_
       rw [if_pos (by omega)]
       exact ⟨congrArg (fun r => [TV.one (T.sl true 1 r)]) (ins_room (by omega) (by simp [roomR_len]; omega) (by omega) (by omega) (by omega) (by omega) (by omega)), rfl, rfl⟩
theorem s_rise_I (xs : List Int) (v : Int) (hl : xs.length + 1 ≤ 2097152) (h : hasI xs v = false) : SemX prog 200 [.one (.t (.sl true 1 (xs.map eI_i64))), aI (lbn xs v), .one (.t (.sl true 1 [[.int .i64 v]]))] [] [.one (.sl true 1 ((riseL xs v).map eI_i64))] [] := by
  have := s_slices_Insert_int64 (xs.map eI_i64) [[.int .i64 v]] (lbn xs v) (by simpa using lbn_le xs v) (by simp) (by simpa using hl) (flat_I xs) (by simp [T.flat])
  rwa [← riseL_no h] at this
end Go.H
end
section
set_option maxRecDepth 100000
set_option maxHeartbeats 4000000
set_option cbv.maxSteps 4000000
set_option linter.unusedVariables false
set_option linter.unusedSimpArgs false
namespace Go.H
open Go Go.Proofs.Tryz
variable [Inv prog]
section
attribute [local go_sem] List.set_set
theorem s_impl_Config_tie (c : Config) (hx1 : limG 2097151 c) (K : CfOk c) (x_ : Cmd) (hkd : x_.kind = 7 ∨ x_.kind = 8) : SemX prog 184 [.one (.ptr 0 0), aS (eCmd x_), aI (findB c.backends x_.name), aI (findV c.vips x_.addr x_.number x_.proto)] [.var (eConfig true c)] [rI (turnV c x_).1] [.var (eConfig true (turnV c x_).2)] := by
 refine goF [(132, ⟨some 2, some 270336, none, none⟩), (70, ⟨some 2, some 143360, none, none⟩), (138, ⟨some 1, none, none, none⟩)] [(4, 3, [1000003], []), (4, 5, [24576], []), (4, 6, [1000003], []), (5, 4, [1000003], [1000003, 143360]), (5, 7, [24576], []), (5, 8, [], [159744]), (5, 9, [143360, 159744], [143360, 159744, 163840]), (5, 12, [1000003, 163840], [1000003, 163840])] [] func184 ?_
 have hx : limG 2097152 c := limG_mono (by omega) hx1
 obtain ⟨hb, hv, hV⟩ := id hx
 refine D ?_
 refine cC (fun c0 => ?_) (fun c0 => ?_)
 · skip
   refine D ?_
   refine E ?_
   have he : turnV c x_ = (4, c) := by unfold turnV; grind
   simp [he]
 · skip
   have hfn : ¬ findV c.vips x_.addr x_.number x_.proto < 0 := by omega
   obtain ⟨n, hfv, hnl, hnq, hnb⟩ : ∃ n : Nat, findV c.vips x_.addr x_.number x_.proto = n ∧ n < c.vips.length ∧ isV x_.addr x_.number x_.proto (c.vips.getD n zVip) = true ∧ ∀ j, j < n → isV x_.addr x_.number x_.proto (c.vips.getD j zVip) = false := idxG_lt zVip hfn
   have hva : vAt c x_ = n := by unfold vAt; omega
   have hnm : (c.vips.getD n zVip).names.length ≤ 2097152 := limV_getD hV n
   have hrs := K.nr n hnl
   have hhi := hasI_eq hrs x_.name
   have hnm1 : (c.vips.getD n zVip).names.length ≤ 2097151 := hx1.2.2 _ (getD_mem zVip hnl)
   have hA := hfv
   refine D ?_
   refine kD (s_slices_BinarySearch_int64 (c.vips.getD n zVip).names x_.name hrs hnm) ?_
   refine D ?_
   refine cC (fun c1 => ?_) (fun c1 => ?_)
   · skip
     refine D ?_
     refine cC (fun c2 => ?_) (fun c2 => ?_)
     · skip
       refine D ?_
       refine E ?_
       have he : turnV c x_ = (4, c) := by unfold turnV; grind
       simp [he]
     · skip
       exfalso
       grind
   · skip
     refine D ?_
     refine cC (fun c2 => ?_) (fun c2 => ?_)
     · skip
       refine D ?_
       refine E ?_
       have he : turnV c x_ = (4, c) := by unfold turnV; grind
       simp [he]
     · skip
       refine D ?_
       refine cC (fun c3 => ?_) (fun c3 => ?_)
       · skip
         have h8 : hasI (c.vips.getD n zVip).names x_.name = true := by grind
         have hlb : lbn (c.vips.getD n zVip).names x_.name < (c.vips.getD n zVip).names.length := by
           have h9 := h8
           simp only [hasI, Bool.and_eq_true, decide_eq_true_eq] at h9
           exact h9.1
         have hgs := fun r d => getD_set_self (l := c.vips.map (eVip true)) (i := n) (by simp; omega) r d
         have hA := And.intro hA (hgs)
         refine D ?_
         refine kRk [] [270336] [] (s_slices_Delete_int64 ((c.vips.getD n zVip).names.map eI_i64) (lbn (c.vips.getD n zVip).names x_.name) (lbn (c.vips.getD n zVip).names x_.name + 1) (by omega) (by rw [List.length_map]; omega) (by rw [List.length_map]; exact hnm) (by rw [← List.map_drop]; exact cpRows_I_i64 _ _) (by rw [← List.map_take, ← List.map_drop, ← List.map_append]; exact noShR_I_i64 _)) ?_
         refine D ?_
         refine E ?_
         have he : turnV c x_ = (0, setV c (vAt c x_) { c.vips.getD (vAt c x_) zVip with names := cutG (c.vips.getD (vAt c x_) zVip).names (lbn (c.vips.getD (vAt c x_) zVip).names x_.name) }) := by unfold turnV; grind
         have hcr : List.take (min (lbn (c.vips.getD n zVip).names x_.name) (c.vips.getD n zVip).names.length + ((c.vips.getD n zVip).names.length - (lbn (c.vips.getD n zVip).names x_.name + 1))) (List.take (lbn (c.vips.getD n zVip).names x_.name) ((c.vips.getD n zVip).names.map eI_i64) ++ List.drop (lbn (c.vips.getD n zVip).names x_.name + 1) ((c.vips.getD n zVip).names.map eI_i64)) = List.take (lbn (c.vips.getD n zVip).names x_.name) ((c.vips.getD n zVip).names.map eI_i64) ++ List.drop (lbn (c.vips.getD n zVip).names x_.name + 1) ((c.vips.getD n zVip).names.map eI_i64) := List.take_of_length_le (by simp [-List.getD_eq_getElem?_getD])
         simp [-List.getD_eq_getElem?_getD, he, setV, hva, eVip, cutG, List.map_set, List.set_set, hcr]
       · skip
         refine D ?_
         refine cC (fun c4 => ?_) (fun c4 => ?_)
         · skip
           refine D ?_
           refine E ?_
           have he : turnV c x_ = (7, c) := by unfold turnV; grind
           simp [he]
         · skip
           have hno : hasI (c.vips.getD n zVip).names x_.name = false := by simpa using c4
           have hgs := fun r d => getD_set_self (l := c.vips.map (eVip true)) (i := n) (by simp; omega) r d
           have hA := And.intro hA (hgs)
           refine D ?_
           refine kDk [] [143360, 159744] [] (s_rise_I (c.vips.getD n zVip).names x_.name (by omega) hno) ?_
           refine D ?_
           refine E ?_
           have he : turnV c x_ = (0, setV c (vAt c x_) { c.vips.getD (vAt c x_) zVip with names := riseL (c.vips.getD (vAt c x_) zVip).names x_.name }) := by unfold turnV; grind
           simp [he, setV, hva, eVip, List.map_set, List.set_set]
end
end Go.H
end
section
set_option maxRecDepth 100000
set_option maxHeartbeats 4000000
set_option cbv.maxSteps 4000000
set_option linter.unusedVariables false
set_option linter.unusedSimpArgs false
namespace Go.H
open Go Go.Proofs.Tryz
variable [Inv prog]
theorem s_slices_ContainsFunc_Vip (R : List Vip) (hl : R.length ≤ 2097152) (fn : Nat) (x_ : Cmd) (q : Vip → Bool) (hq : callB prog fn = true) (hf : ∀ b : Vip, b ∈ R → SemX prog fn [aS (eVip false b), aT (.ptr (eCmd x_))] [] [rB (q b)] []) : SemX prog 201 [aT (.sl false 4 (R.map (eVip false))), .one (.fn fn [.t (.ptr (eCmd x_))])] [] [rB (hasG q R)] [] := by
 refine goF [] [] [] func201 ?_
 refine D ?_
 refine kR (s_slices_IndexFunc_Vip_cmd R hl fn x_ q hq hf) ?_
 refine D ?_
 refine E ?_
 first
 | exact trivial
 | simp only [go_sem, hasG]
end Go.H
end
section
set_option maxRecDepth 100000
set_option maxHeartbeats 4000000
set_option cbv.maxSteps 4000000
set_option linter.unusedVariables false
set_option linter.unusedSimpArgs false
namespace Go.H
open Go Go.Proofs.Tryz
variable [Inv prog]
theorem s_slices_Index_int64 (xs : List Int) (n : Int) (hl : xs.length ≤ 2097152) : SemX prog 228 [aT (.sl false 1 (xs.map eI_i64)), aI n] [] [rI (idxG (eqI n) xs)] [] := by
 refine goF [] [] [] func228 ?_
 refine D ?_
 refine L (α := Nat) (fun x => [(8, .int .i64 x)]) (fun x => []) (fun x => xs.length - x) (fun x => x ≤ xs.length ∧ ∀ j, j < x → eqI n (xs.getD j zI_i64) = false) 0 [] (fun x hL => ?_) (hi := by exact ⟨Nat.zero_le _, fun j hj => by omega⟩)
 obtain ⟨hx2, hno⟩ := hL
 refine D ?_
 refine cC (fun c0 => ?_) (fun c0 => ?_)
 · skip
   refine D ?_
   refine cC (fun c1 => ?_) (fun c1 => ?_)
   · skip
     refine D ?_
     refine E ?_
     rw [idxG_some zI_i64 (by omega) hno (by simp [-List.getD_eq_getElem?_getD, eqI]; omega)]
   · skip
     refine D ?_
     refine N (x+1) [] (hi := ?_) (hm := ?_)
     · refine ⟨by omega, fun j hj => ?_⟩
       rcases Nat.lt_or_ge j x with h | h
       · exact hno j h
       · obtain rfl : j = x := by omega
         first | exact c1 | (simpa [isB, isV, eqI] using c1) | (simp [isB, isV, eqI]; grind)
     · omega
 · skip
   obtain rfl : x = xs.length := by omega
   refine D ?_
   refine E ?_
   rw [idxG_none zI_i64 hno]
end Go.H
end
section
set_option maxRecDepth 100000
set_option maxHeartbeats 4000000
set_option cbv.maxSteps 4000000
set_option linter.unusedVariables false
set_option linter.unusedSimpArgs false
namespace Go.H
open Go Go.Proofs.Tryz
variable [Inv prog]
theorem s_slices_Contains_int64 (xs : List Int) (n : Int) (hl : xs.length ≤ 2097152) : SemX prog 203 [aT (.sl false 1 (xs.map eI_i64)), aI n] [] [rB (hasG (eqI n) xs)] [] := by
 refine goF [] [] [] func203 ?_
 refine D ?_
 refine kR (s_slices_Index_int64 xs n hl) ?_
 refine D ?_
 refine E ?_
 first
 | exact trivial
 | simp only [go_sem, hasG]
end Go.H
end
section
set_option maxRecDepth 100000
set_option maxHeartbeats 4000000
set_option cbv.maxSteps 4000000
set_option linter.unusedVariables false
set_option linter.unusedSimpArgs false
namespace Go.H
open Go Go.Proofs.Tryz
variable [Inv prog]
theorem s_impl_Config_turn_1 (v : Vip) (x_ : Cmd) (hl : v.names.length ≤ 2097152) : SemX prog 202 [aS (eVip false v), aT (.ptr (eCmd x_))] [] [rB (hasG (eqI x_.name) v.names)] [] := by
 refine goF [] [] [] func202 ?_
 refine D ?_
 refine kR (s_slices_Contains_int64 v.names x_.name hl) ?_
 refine D ?_
 exact E trivial
end Go.H
end
section
set_option maxRecDepth 100000
set_option maxHeartbeats 4000000
set_option cbv.maxSteps 4000000
set_option linter.unusedVariables false
set_option linter.unusedSimpArgs false
namespace Go.H
open Go Go.Proofs.Tryz
variable [Inv prog]
theorem s_slices_Delete_Backend (R : List (List T)) (i j : Nat) (hij : i < j) (hj : j ≤ R.length) (hl : R.length ≤ 2097152) (hs : cpRows none (R.drop j) = True) (hn : T.noShR (R.take i ++ R.drop j) = True) : SemX prog 204 [.one (.t (.sl true 5 R)), aI i, aI j] [] [.one (.sl true 5 (R.take i ++ R.drop j))] [] := by
 refine goF [(54, ⟨some 7, none, none, none⟩)] [(5, 2, [0], []), (5, 5, [0], []), (5, 6, [0], [0])] [] func204 ?_
 have hA := hs
 refine D ?_
 refine cC (fun c0 => ?_) (fun c0 => ?_)
 · skip
   omega
 · skip
   refine D ?_
   refine E ?_
   rw [if_pos (by omega)]
   exact ⟨congrArg (fun r => [TV.one (T.sl true 5 r)]) (del_rowsR R (by omega) hj _ _ _), rfl, rfl⟩
end Go.H
end
section
set_option maxRecDepth 100000
set_option maxHeartbeats 4000000
set_option cbv.maxSteps 4000000
set_option linter.unusedVariables false
set_option linter.unusedSimpArgs false
namespace Go.H
open Go Go.Proofs.Tryz
variable [Inv prog]
theorem s_impl_Config_turn (c : Config) (hx : limG 2097152 c) (K : CfOk c) (x_ : Cmd) (n : Nat) (hfb : findB c.backends x_.name = n) (hkd : x_.kind = 2 ∨ x_.kind = 3 ∨ x_.kind = 9 ∨ x_.kind = 4) : SemX prog 185 [.one (.ptr 0 0), aS (eCmd x_), aI n] [.var (eConfig true c)] [rI (turnB c x_).1] [.var (eConfig true (turnB c x_).2)] := by
 refine goF [(74, ⟨some 1, none, none, none⟩)] [] [] func185 ?_
 obtain ⟨hb, hv, hV⟩ := id hx
 obtain ⟨m_, hfb2, hnl, hnq, hnb⟩ : ∃ m : Nat, findB c.backends x_.name = m ∧ m < c.backends.length ∧ isB x_.name (c.backends.getD m zBackend) = true ∧ ∀ j, j < m → isB x_.name (c.backends.getD j zBackend) = false := idxG_lt zBackend (show ¬ findB c.backends x_.name < 0 by omega)
 obtain rfl : n = m_ := by omega
 have hba : bAt c x_.name = n := by unfold bAt; omega
 have hA := hfb
 refine D ?_
 refine cC (fun c0 => ?_) (fun c0 => ?_)
 · skip
   refine D ?_
   refine E ?_
   have he : turnB c x_ = (0, setB c (bAt c x_.name) { c.backends.getD (bAt c x_.name) zBackend with weight := x_.number }) := by unfold turnB; grind
   
   simp [he, setB, hba, List.map_set, eBackend, List.set_set]
 · skip
   refine D ?_
   refine cC (fun c1 => ?_) (fun c1 => ?_)
   · skip
     refine D ?_
     refine E ?_
     have he : turnB c x_ = (0, setB c (bAt c x_.name) { c.backends.getD (bAt c x_.name) zBackend with stage := x_.number }) := by unfold turnB; grind
     
     simp [he, setB, hba, List.map_set, eBackend, List.set_set]
   · skip
     refine D ?_
     refine cC (fun c2 => ?_) (fun c2 => ?_)
     · skip
       refine D ?_
       refine E ?_
       have he : turnB c x_ = (0, setB c (bAt c x_.name) { c.backends.getD (bAt c x_.name) zBackend with up := decide (x_.number = 1) }) := by unfold turnB; grind
       
       simp [he, setB, hba, List.map_set, eBackend, List.set_set]
     · skip
       refine D ?_
       refine cC (fun c3 => ?_) (fun c3 => ?_)
       · skip
         refine D ?_
         refine E ?_
         have he : turnB c x_ = (10, c) := by unfold turnB; grind
         simp [he]
       · skip
         refine D ?_
         refine kR (s_slices_ContainsFunc_Vip c.vips hv 202 x_ (fun v => hasG (eqI x_.name) v.names) (by kernel_rfl) (fun v h => s_impl_Config_turn_1 v x_ (hV v h))) ?_
         refine D ?_
         refine cC (fun c4 => ?_) (fun c4 => ?_)
         · skip
           refine D ?_
           refine E ?_
           have he : turnB c x_ = (8, c) := by unfold turnB; unfold serves; grind
           simp [he]
         · skip
           refine D ?_
           refine kRk [] [1000002] [] (s_slices_Delete_Backend (c.backends.map eBackend) n (n + 1) (by omega) (by rw [List.length_map]; omega) (by rw [List.length_map]; exact hb) (by rw [← List.map_drop]; exact cpRows_Backend _ _) (by rw [← List.map_take, ← List.map_drop, ← List.map_append]; exact noShR_Backend _)) ?_
           refine D ?_
           refine E ?_
           have he : turnB c x_ = (0, { c with backends := cutG c.backends (bAt c x_.name) }) := by unfold turnB; unfold serves; grind
           
           have hcr : List.take (min n c.backends.length + (c.backends.length - (n + 1))) (List.take n (c.backends.map eBackend) ++ List.drop (n + 1) (c.backends.map eBackend)) = List.take n (c.backends.map eBackend) ++ List.drop (n + 1) (c.backends.map eBackend) := List.take_of_length_le (by simp)
           simp [he, cutG, hba, hcr]
end Go.H
end
section
set_option maxRecDepth 100000
set_option maxHeartbeats 4000000
set_option cbv.maxSteps 4000000
set_option linter.unusedVariables false
set_option linter.unusedSimpArgs false
namespace Go.H
open Go Go.Proofs.Tryz
variable [Inv prog]
theorem s_impl_Config_does (c : Config) (hx1 : limG 2097151 c) (K : CfOk c) (x_ : Cmd) (hkd : 1 ≤ x_.kind ∧ x_.kind ≤ 9) : SemX prog 142 [.one (.ptr 0 0), aS (eCmd x_)] [.var (eConfig true c)] [rI (turned c x_).1] [.var (eConfig true (turned c x_).2)] := by
 refine goF [(210, ⟨some 1, none, none, none⟩)] [(1, 2, [16384], []), (1, 3, [1000000, 1000002, 1000003], []), (1, 6, [16384], []), (1, 8, [16384], []), (1, 10, [16384], []), (1, 11, [1000000, 1000002, 1000003], []), (11, 4, [1000000], []), (11, 6, [16384], []), (11, 8, [16384], []), (11, 10, [16384], []), (11, 12, [], [212992]), (11, 13, [1000002, 212992], [217088, 1000002, 212992]), (11, 16, [1000000], [1000000]), (18, 4, [1000000], []), (18, 6, [16384], []), (18, 8, [16384], []), (18, 10, [16384], []), (18, 12, [], [348160]), (18, 13, [1000003, 348160], [352256, 1000003, 348160]), (18, 16, [1000000], [1000000])] [] func142 ?_
 have hx : limG 2097152 c := limG_mono (by omega) hx1
 obtain ⟨hb, hv, hV⟩ := id hx
 have hk8 := K.b8
 have hk4 := K.v4
 refine D ?_
 refine kD (s_impl_Config_backend c hx x_.name) ?_
 refine D ?_
 refine kD (s_impl_Config_vip c hx x_.addr x_.number x_.proto) ?_
 refine D ?_
 refine cC (fun c0 => ?_) (fun c0 => ?_)
 · skip
   refine D ?_
   refine cC (fun c1 => ?_) (fun c1 => ?_)
   · skip
     refine D ?_
     refine E ?_
     have hin : inR x_.kind 5 8 = false := by simp [inR]; omega
     have he : turned c x_ = (7, c) := by unfold turned; rw [hin]; unfold turnV turnB; grind
     simp [he]
   · skip
     refine D ?_
     refine cC (fun c2 => ?_) (fun c2 => ?_)
     · skip
       refine D ?_
       refine E ?_
       have hin : inR x_.kind 5 8 = false := by simp [inR]; omega
       have he : turned c x_ = (2, c) := by unfold turned; rw [hin]; unfold turnV turnB; grind
       simp [he]
     · skip
       have hpb := (put_b K (x := x_) (show findB c.backends x_.name < 0 by omega))
       have hmb : List.map eBackend c.backends ++ [[T.int .i64 x_.name, T.int .i64 x_.addr, T.int .i64 x_.number, T.int .i64 1, T.bool true]] = List.map eBackend (c.backends ++ [bOf x_]) := by simp [eBackend, bOf]
       have hA := hmb
       refine D ?_
       refine kRk [217088] [] [] (s_slices_SortFunc_Backend c.backends (bOf x_) (preG (ltB x_.name) c.backends) 181 cmpB (by kernel_rfl) s_impl_Config_does_1 (preG_le _ _) (by have := K.b8; omega) hpb.2.1 hpb.2.2.1 hpb.2.2.2) ?_
       refine D ?_
       refine E ?_
       have hin : inR x_.kind 5 8 = false := by simp [inR]; omega
       have he : turned c x_ = (0, { c with backends := putG (ltB x_.name) c.backends (bOf x_) }) := by unfold turned; rw [hin]; unfold turnV turnB; grind
       have htk : ∀ (k : Nat) (V : List T), List.take (c.backends.length + 1) (List.take k (List.map eBackend c.backends) ++ V :: List.drop k (List.map eBackend c.backends)) = List.take k (List.map eBackend c.backends) ++ V :: List.drop k (List.map eBackend c.backends) := fun k V => List.take_of_length_le (by simp; omega)
       simp [he, putG, insAt, bOf, htk]
 · skip
   refine D ?_
   refine cC (fun c3 => ?_) (fun c3 => ?_)
   · skip
     refine D ?_
     refine cC (fun c4 => ?_) (fun c4 => ?_)
     · skip
       refine D ?_
       refine E ?_
       have hin : inR x_.kind 5 8 = true := by simp [inR]; omega
       have he : turned c x_ = (7, c) := by unfold turned; rw [hin]; unfold turnV turnB; grind
       simp [he]
     · skip
       refine D ?_
       refine cC (fun c5 => ?_) (fun c5 => ?_)
       · skip
         refine D ?_
         refine E ?_
         have hin : inR x_.kind 5 8 = true := by simp [inR]; omega
         have he : turned c x_ = (2, c) := by unfold turned; rw [hin]; unfold turnV turnB; grind
         simp [he]
       · skip
         have hpv := (put_v K (x := x_) (show findV c.vips x_.addr x_.number x_.proto < 0 by omega))
         have hmv : List.map (eVip true) c.vips ++ [[T.int .i64 x_.addr, T.int .i64 x_.number, T.int .i64 x_.proto, T.sl true 1 []]] = List.map (eVip true) (c.vips ++ [vOf x_]) := by simp [eVip, vOf]
         have hA := hmv
         refine D ?_
         refine kRk [352256] [] [] (s_slices_SortFunc_Vip c.vips (vOf x_) (preG (ltV (vOf x_)) c.vips) 135 cmpV (by kernel_rfl) s_impl_compareVip_raw (preG_le _ _) (by have := K.v4; omega) hpv.2.1 hpv.2.2.1 hpv.2.2.2) ?_
         refine D ?_
         refine E ?_
         have hin : inR x_.kind 5 8 = true := by simp [inR]; omega
         have he : turned c x_ = (0, { c with vips := putG (ltV (vOf x_)) c.vips (vOf x_) }) := by unfold turned; rw [hin]; unfold turnV turnB; grind
         have htk : ∀ (k : Nat) (V : List T), List.take (c.vips.length + 1) (List.take k (List.map (eVip true) c.vips) ++ V :: List.drop k (List.map (eVip true) c.vips)) = List.take k (List.map (eVip true) c.vips) ++ V :: List.drop k (List.map (eVip true) c.vips) := fun k V => List.take_of_length_le (by simp; omega)
         simp [he, putG, insAt, vOf, htk]
   · skip
     refine D ?_
     refine cC (fun c6 => ?_) (fun c6 => ?_)
     · skip
       refine D ?_
       refine cC (fun c7 => ?_) (fun c7 => ?_)
       · skip
         refine D ?_
         refine E ?_
         have hin : inR x_.kind 5 8 = true := by simp [inR]; omega
         have he : turned c x_ = (4, c) := by unfold turned; rw [hin]; unfold turnV turnB; grind
         simp [he]
       · skip
         have hfn : ¬ findV c.vips x_.addr x_.number x_.proto < 0 := by omega
         obtain ⟨n, hfv, hnl, hnq, hnb⟩ : ∃ n : Nat, findV c.vips x_.addr x_.number x_.proto = n ∧ n < c.vips.length ∧ isV x_.addr x_.number x_.proto (c.vips.getD n zVip) = true ∧ ∀ j, j < n → isV x_.addr x_.number x_.proto (c.vips.getD j zVip) = false := idxG_lt zVip hfn
         have hva : vAt c x_ = n := by unfold vAt; omega
         have hnm : (c.vips.getD n zVip).names.length ≤ 2097152 := limV_getD hV n
         have hrs := K.nr n hnl
         have hhi := hasI_eq hrs x_.name
         have hA := hfv
         refine D ?_
         refine kRk [] [1000003] [] (s_slices_Delete_Vip (c.vips.map (eVip true)) n (n + 1) (by omega) (by rw [List.length_map]; omega) (by rw [List.length_map]; exact hv) (by rw [← List.map_drop]; exact cpRows_Vip _ _) (by rw [← List.map_take, ← List.map_drop, ← List.map_append]; exact noShR_Vip _)) ?_
         refine D ?_
         refine E ?_
         have hin : inR x_.kind 5 8 = true := by simp [inR]; omega
         have he : turned c x_ = (0, { c with vips := cutG c.vips (vAt c x_) }) := by unfold turned; rw [hin]; unfold turnV turnB; grind
         have hcr : List.take (min n c.vips.length + (c.vips.length - (n + 1))) (List.take n (c.vips.map (eVip true)) ++ List.drop (n + 1) (c.vips.map (eVip true))) = List.take n (c.vips.map (eVip true)) ++ List.drop (n + 1) (c.vips.map (eVip true)) := List.take_of_length_le (by simp)
         simp [he, cutG, hva, hcr]
     · skip
       refine D ?_
       refine cC (fun c8 => ?_) (fun c8 => ?_)
       · skip
         refine D ?_
         refine cC (fun c9 => ?_) (fun c9 => ?_)
         · skip
           have hkd7 : x_.kind = 7 ∨ x_.kind = 8 := .inl c9
           refine D ?_
           refine kRk [1000000] [] [1000002, 1000003] (s_impl_Config_tie c hx1 K x_ hkd7) ?_
           refine D ?_
           refine E ?_
           have hin : inR x_.kind 5 8 = true := by simp [inR]; omega
           have he : turned c x_ = turnV c x_ := by unfold turned; rw [if_pos hin]
           rw [he]
           exact ⟨rfl, rfl⟩
         · skip
           exfalso
           grind
       · skip
         refine D ?_
         refine cC (fun c9 => ?_) (fun c9 => ?_)
         · skip
           have hkd7 : x_.kind = 7 ∨ x_.kind = 8 := .inr c9
           refine D ?_
           refine kRk [1000000] [] [1000002, 1000003] (s_impl_Config_tie c hx1 K x_ hkd7) ?_
           refine D ?_
           refine E ?_
           have hin : inR x_.kind 5 8 = true := by simp [inR]; omega
           have he : turned c x_ = turnV c x_ := by unfold turned; rw [if_pos hin]
           rw [he]
           exact ⟨rfl, rfl⟩
         · skip
           refine D ?_
           refine cC (fun c10 => ?_) (fun c10 => ?_)
           · skip
             refine D ?_
             refine E ?_
             have hin : inR x_.kind 5 8 = false := by simp [inR]; omega
             have he : turned c x_ = (4, c) := by unfold turned; rw [hin]; unfold turnV turnB; grind
             simp [he]
           · skip
             obtain ⟨n, hfbn⟩ : ∃ n : Nat, findB c.backends x_.name = n := ⟨(findB c.backends x_.name).toNat, by omega⟩
             have hkd4 : x_.kind = 2 ∨ x_.kind = 3 ∨ x_.kind = 9 ∨ x_.kind = 4 := by omega
             have hA := hfbn
             refine D ?_
             refine kRk [1000000] [] [1000002, 1000003] (s_impl_Config_turn c hx K x_ n hfbn hkd4) ?_
             refine D ?_
             refine E ?_
             have hin : inR x_.kind 5 8 = false := by simp [inR]; omega
             have he : turned c x_ = turnB c x_ := by unfold turned; rw [if_neg (by rw [hin]; simp)]
             rw [he]
             exact ⟨rfl, rfl⟩
end Go.H
end
section
set_option maxRecDepth 100000
set_option maxHeartbeats 4000000
set_option cbv.maxSteps 4000000
set_option linter.unusedVariables false
set_option linter.unusedSimpArgs false
namespace Go.H
open Go Go.Proofs.Tryz
variable [Inv prog]
theorem s_impl_apply (c : Config) (hx1 : limG 2097151 c) (K : CfOk c) (x_ : Cmd) (hcf : cmdFault x_ = 0) : SemX prog 78 [aS (eConfig false c), aS (eCmd x_)] [] [.agg (eConfigResult true (applyR c x_))] [] := by
 refine goF [(70, ⟨some 1, none, none, none⟩)] [] [] func78 ?_
 have hx : limG 2097152 c := limG_mono (by omega) hx1
 obtain ⟨hb, hv, hV⟩ := id hx
 have hk9 : 1 ≤ x_.kind ∧ x_.kind ≤ 9 := by
   unfold cmdFault at hcf
   cases h : inR x_.kind 1 9 with
   | false => simp [h] at hcf
   | true => simpa [inR] using h
 have hk0 := K.v0
 have hk1 := K.v1
 have htv := turned_ver c x_
 have hA := htv
 refine D ?_
 refine cC (fun c0 => ?_) (fun c0 => ?_)
 · skip
   refine D ?_
   refine E ?_
   have he : applyR c x_ = badC 3 := by unfold applyR; grind
   simp [he, badC, zConfig]
 · skip
   refine D ?_
   refine cC (fun c1 => ?_) (fun c1 => ?_)
   · skip
     refine D ?_
     refine E ?_
     have he : applyR c x_ = badC 9 := by unfold applyR; grind
     simp [he, badC, zConfig]
   · skip
     refine D ?_
     refine kR (s_impl_Config_copied c hx) ?_
     refine D ?_
     refine kRk [24576] [] [106497, 106498] (s_impl_Config_does c hx1 K x_ hk9) ?_
     refine D ?_
     refine cC (fun c2 => ?_) (fun c2 => ?_)
     · skip
       refine D ?_
       refine E ?_
       have he : applyR c x_ = badC (turned c x_).1 := by unfold applyR; grind
       simp [he, badC, zConfig]
     · skip
       refine D ?_
       refine E ?_
       have he : applyR c x_ = ⟨0, { (turned c x_).2 with version := c.version + 1 }⟩ := by unfold applyR; grind
       simp [he, badC, zConfig]
end Go.H
end
section
set_option maxRecDepth 100000
set_option maxHeartbeats 4000000
set_option cbv.maxSteps 4000000
set_option linter.unusedVariables false
set_option linter.unusedSimpArgs false
namespace Go.H
open Go Go.Proofs.Tryz
variable [Inv prog]
theorem s_spec_l5Copy (c : Config) (hx : limG 2097152 c) : SemX prog 115 [aS (eConfig false c)] [] [.agg (eConfig true c)] [] := by
 refine goF [(26, ⟨some 4, some 53248, some (32, true), none⟩)] [(1, 1, [8192], []), (1, 2, [], [36864]), (1, 4, [8192], []), (1, 5, [36864], [49152, 36864]), (1, 6, [], [53250]), (1, 7, [], [16384]), (1, 8, [16384], [16384])] [] func115 ?_
 obtain ⟨hb, hv, hV⟩ := id hx
 refine D ?_
 refine L (α := Nat) (fun i => [(4, .int .i64 i)]) (fun i => [(16384, .var [.int .i64 c.version, .ref 49152 0 c.backends.length, .ref 53250 0 i]), (53250, .arr ⟨4, (c.vips.take i).map (eVip true), 1, none⟩)]) (fun i => c.vips.length - i) (fun i => i ≤ c.vips.length) 0 [] (fun i hI => ?_)
 refine D ?_
 refine cC (fun c0 => ?_) (fun c0 => ?_)
 · skip
   have hnl : (c.vips.getD i zVip).names.length ≤ 2097152 := hV _ (getD_mem zVip (by omega))
   refine D ?_
   refine lp_next (i+1) [(53250,143360)] ?_ ?_ ?_
   · simp only [go_sem] <;> and_intros <;> first | with_reducible exact rfl | (first | omega | (rw [take_succ_map _ zVip (by omega)]; simp only [eVip]))
   · omega
   · omega
 · skip
   obtain rfl : i = c.vips.length := by omega
   refine D ?_
   exact E trivial
end Go.H
end
section
set_option maxRecDepth 100000
set_option maxHeartbeats 4000000
set_option cbv.maxSteps 4000000
set_option linter.unusedVariables false
set_option linter.unusedSimpArgs false
namespace Go.H
open Go Go.Proofs.Tryz
variable [Inv prog]
theorem s_spec_l5Find (c : Config) (hx : limG 2097152 c) (x_ : Cmd) : SemX prog 169 [aT (.ptr (eConfig false c)), aS (eCmd x_)] [] [rI (findV c.vips x_.addr x_.number x_.proto)] [] := by
 refine goF [] [] [] func169 ?_
 obtain ⟨hb, hv, hV⟩ := id hx
 refine D ?_
 refine L (α := Nat) (fun x => [(5, .int .i64 x)]) (fun x => []) (fun x => c.vips.length - x) (fun x => x ≤ c.vips.length ∧ ∀ j, j < x → isV x_.addr x_.number x_.proto (c.vips.getD j zVip) = false) 0 [] (fun x hL => ?_) (hi := by exact ⟨Nat.zero_le _, fun j hj => by omega⟩)
 obtain ⟨hx2, hno⟩ := hL
 refine D ?_
 refine cC (fun c0 => ?_) (fun c0 => ?_)
 · skip
   refine D ?_
   refine cC (fun c1 => ?_) (fun c1 => ?_)
   · skip
     refine D ?_
     refine E ?_
     have he : findV c.vips x_.addr x_.number x_.proto = x := idxG_some zVip (by omega) hno (by simp [isV]; grind)
     rw [he]
   · skip
     refine D ?_
     refine N (x+1) [] (hi := ?_) (hm := ?_)
     · refine ⟨by omega, fun j hj => ?_⟩
       rcases Nat.lt_or_ge j x with h | h
       · exact hno j h
       · obtain rfl : j = x := by omega
         first | exact c1 | (simpa [isB, isV, eqI] using c1) | (simp [isB, isV, eqI]; grind)
     · omega
 · skip
   obtain rfl : x = c.vips.length := by omega
   refine D ?_
   refine E ?_
   have he : findV c.vips x_.addr x_.number x_.proto = -1 := idxG_none zVip hno
   rw [he]
end Go.H
end
section
set_option maxRecDepth 100000
set_option maxHeartbeats 4000000
set_option cbv.maxSteps 4000000
set_option linter.unusedVariables false
set_option linter.unusedSimpArgs false
namespace Go.H
open Go Go.Proofs.Tryz
variable [Inv prog]
theorem s_spec_l1Has (xs : List Int) (n : Int) (hl : xs.length ≤ 2097152) : SemX prog 170 [aT (.sl false 1 (xs.map eI_i64)), aI n] [] [rB (hasG (eqI n) xs)] [] := by
 refine goF [] [] [] func170 ?_
 refine D ?_
 refine L (α := Nat) (fun x => [(5, .int .i64 x)]) (fun x => []) (fun x => xs.length - x) (fun x => x ≤ xs.length ∧ ∀ j, j < x → eqI n (xs.getD j zI_i64) = false) 0 [] (fun x hL => ?_) (hi := by exact ⟨Nat.zero_le _, fun j hj => by omega⟩)
 obtain ⟨hx2, hno⟩ := hL
 refine D ?_
 refine cC (fun c0 => ?_) (fun c0 => ?_)
 · skip
   refine D ?_
   refine cC (fun c1 => ?_) (fun c1 => ?_)
   · skip
     refine D ?_
     refine E ?_
     rw [hasG_true zI_i64 (i := x) (by omega) (by simpa [eqI] using c1)]
   · skip
     refine D ?_
     refine N (x+1) [] (hi := ?_) (hm := ?_)
     · refine ⟨by omega, fun j hj => ?_⟩
       rcases Nat.lt_or_ge j x with h | h
       · exact hno j h
       · obtain rfl : j = x := by omega
         first | exact c1 | (simpa [isB, isV, eqI] using c1) | (simp [isB, isV, eqI]; grind)
     · omega
 · skip
   obtain rfl : x = xs.length := by omega
   refine D ?_
   refine E ?_
   rw [hasG_false zI_i64 hno]
end Go.H
end
section
set_option maxRecDepth 100000
set_option maxHeartbeats 4000000
set_option cbv.maxSteps 4000000
set_option linter.unusedVariables false
set_option linter.unusedSimpArgs false
namespace Go.H
open Go Go.Proofs.Tryz
variable [Inv prog]
theorem s_spec_l1Rise (xs : List Int) (v : Int) (hl : xs.length ≤ 2097152) : SemX prog 171 [.one (.t (.sl true 1 (xs.map eI_i64))), aI v] [] [.one (.sl true 1 ((riseL xs v).map eI_i64))] [] := by
 refine goF [(76, ⟨some 0, none, none, none⟩)] [(6, 0, [], [139264]), (6, 3, [0], []), (6, 4, [139264, 0], [155648, 139264]), (6, 6, [], [163840]), (6, 7, [155648, 163840], [167936, 155648, 163840]), (6, 10, [0], []), (6, 11, [167936, 0], [184320, 167936])] [] func171 ?_
 refine D ?_
 refine L (α := Nat) (fun i => [(5, .int .i64 i)]) (fun i => []) (fun i => xs.length - i) (fun i => i ≤ xs.length ∧ ∀ q, q < i → xs.getD q zI_i64 < v) 0 [] (fun i hL => ?_) (hi := by exact ⟨Nat.zero_le _, fun q h => by omega⟩)
 obtain ⟨hi, hlo⟩ := hL
 refine D ?_
 refine cC (fun c0 => ?_) (fun c0 => ?_)
 · skip
   refine D ?_
   refine N (i+1) [] (hi := ?_) (hm := ?_)
   · simp at c0
     refine ⟨by omega, fun q hq => ?_⟩
     by_cases e : q = i
     · subst e; exact c0.2
     · exact hlo q (by omega)
   · omega
 · skip
   have hb : lbn xs v = i := lbn_eq hi hlo (fun h => by simp [-List.getD_eq_getElem?_getD] at c0; have := c0 h; omega)
   refine D ?_
   refine cC (fun c1 => ?_) (fun c1 => ?_)
   · skip
     refine D ?_
     refine E ?_
     have he : hasI xs v = true := by simp [hasI, hb]; simpa using c1
     simp [riseL, he]
   · skip
     refine D ?_
     refine E ?_
     have he : hasI xs v = false := by simp [hasI, hb]; simpa using c1
     have hm : min i xs.length = i := by omega
     have e1 : List.take (i + 1) (List.take i (List.map eI_i64 xs) ++ [[T.int .i64 v]]) = List.take i (List.map eI_i64 xs) ++ [[T.int .i64 v]] := List.take_of_length_le (by simp; omega)
     simp [riseL, he, hb, hm, e1]
     exact ⟨List.take_of_length_le (by simp; omega), rfl⟩
end Go.H
end
section
set_option maxRecDepth 100000
set_option maxHeartbeats 4000000
set_option cbv.maxSteps 4000000
set_option linter.unusedVariables false
set_option linter.unusedSimpArgs false
namespace Go.H
open Go Go.Proofs.Tryz
variable [Inv prog]
section
attribute [local go_sem] List.set_set
theorem s_spec_l5TurnVip (c : Config) (hx : limG 2097152 c) (K : CfOk c) (x_ : Cmd) (hkd : x_.kind = 5 ∨ x_.kind = 6 ∨ x_.kind = 7 ∨ x_.kind = 8) : SemX prog 126 [.one (.ptr 0 0), aS (eCmd x_)] [.var (eConfig true c)] [rI (turnV c x_).1] [.var (eConfig true (turnV c x_).2)] := by
 refine goF [(120, ⟨some 8, none, none, none⟩), (140, ⟨some 8, none, none, none⟩), (138, ⟨some 11, some 1000003, none, some [1000004]⟩), (236, ⟨some 8, none, none, none⟩), (252, ⟨some 8, none, none, none⟩), (250, ⟨some 11, some 1000003, none, some [1000004]⟩), (248, ⟨some 1, none, none, none⟩), (308, ⟨some 2, some 630784, none, none⟩)] [(9, 4, [1000000], []), (9, 11, [1000000], []), (9, 13, [1000003], []), (9, 14, [1000003], []), (9, 15, [28672], []), (9, 16, [1000003], []), (11, 1, [], [217088]), (11, 5, [1000000], []), (11, 7, [1000003], []), (11, 8, [217088, 1000003], [245760, 217088, 1000003]), (11, 9, [28672], []), (11, 10, [], [253952]), (11, 11, [245760, 253952], [258048, 245760, 253952]), (11, 15, [1000000], []), (11, 17, [1000003], []), (11, 18, [258048, 1000003], [286720, 258048, 1000003]), (11, 21, [1000000], [1000000]), (13, 4, [16384], []), (13, 9, [16384], []), (13, 10, [1000000, 1000002, 1000003], []), (13, 16, [16384], []), (13, 22, [1000000], []), (13, 24, [1000003], []), (13, 26, [1000003], []), (13, 28, [16384], []), (13, 29, [1000003], []), (17, 1, [], [454656]), (17, 5, [1000000], []), (17, 7, [1000003], []), (17, 8, [454656, 1000003], [483328, 454656, 1000003]), (17, 12, [1000000], []), (17, 15, [1000003], []), (17, 16, [483328, 1000003], [516096, 483328, 1000003]), (17, 19, [1000000], [1000000]), (19, 3, [1000000], []), (19, 5, [1000003], []), (19, 7, [1000003], []), (19, 9, [16384], []), (19, 10, [1000003], []), (21, 3, [1000000], []), (21, 8, [1000000], []), (21, 10, [1000003], []), (21, 12, [1000003], [1000003, 630784]), (21, 14, [16384], []), (21, 15, [630784], [630784, 643072]), (21, 16, [1000003], []), (21, 18, [1000003, 643072], [1000003, 643072]), (27, 3, [1000000], []), (27, 5, [1000003], []), (27, 7, [1000003], []), (27, 9, [1000003], []), (27, 10, [1000003], []), (27, 12, [16384], [])] [] func126 ?_
 obtain ⟨hb, hv, hV⟩ := id hx
 have hfl : findV c.vips x_.addr x_.number x_.proto < c.vips.length := idxG_bd _ _
 refine D ?_
 refine kR (s_spec_l5Find c hx x_) ?_
 refine D ?_
 refine cC (fun c0 => ?_) (fun c0 => ?_)
 · skip
   refine D ?_
   refine cC (fun c1 => ?_) (fun c1 => ?_)
   · skip
     refine D ?_
     refine E ?_
     have he : turnV c x_ = (7, c) := by unfold turnV; grind
     simp [he]
   · skip
     refine D ?_
     refine cC (fun c2 => ?_) (fun c2 => ?_)
     · skip
       refine D ?_
       refine E ?_
       have he : turnV c x_ = (2, c) := by unfold turnV; grind
       simp [he]
     · skip
       refine D ?_
       refine L (α := Nat) (fun k => [(7, .int .i64 k)]) (fun k => []) (fun k => c.vips.length - k) (fun k => k ≤ c.vips.length ∧ ∀ q, q < k → ltV (vOf x_) (c.vips.getD q zVip) = true) 0 [] (fun k hL => ?_) (hi := by exact ⟨Nat.zero_le _, fun q h => by omega⟩)
       obtain ⟨hk, hlo⟩ := hL
       refine D ?_
       refine kDg (s_spec_l5Behind (c.vips.getD k zVip) ⟨x_.addr, x_.number, x_.proto, []⟩) ?_
       refine D ?_
       refine cC (fun c3 => ?_) (fun c3 => ?_)
       · skip
         refine D ?_
         refine N (k+1) [] (hi := ?_) (hm := ?_)
         · refine ⟨by omega, fun q hq => ?_⟩
           rcases Nat.lt_or_ge q k with h | h
           · exact hlo q h
           · obtain rfl : q = k := by omega
             unfold ltV vOf
             grind
         · omega
       · skip
         have hpk : preG (ltV (vOf x_)) c.vips = k := preG_eq zVip hk hlo (fun h => by unfold ltV vOf; grind)
         have hmk : min k c.vips.length = k := by omega
         have hA := hmk
         refine D ?_
         refine E ?_
         have he : turnV c x_ = (0, { c with vips := putG (ltV (vOf x_)) c.vips (vOf x_) }) := by unfold turnV; grind
         simp [he, putG, hpk]
         exact put_rowsW (eVip true) c.vips hk _
 · skip
   refine D ?_
   refine kDg (s_spec_l5At c hx x_.name) ?_
   refine D ?_
   refine kDg (s_spec_l1Has (c.vips.getD (findV c.vips x_.addr x_.number x_.proto).toNat zVip).names x_.name (limV_getD hV _)) ?_
   refine D ?_
   refine cC (fun c4 => ?_) (fun c4 => ?_)
   · skip
     have hh : ¬ findV c.vips x_.addr x_.number x_.proto < 0 → hasG (eqI x_.name) (c.vips.getD (findV c.vips x_.addr x_.number x_.proto).toNat zVip).names = hasI (c.vips.getD (findV c.vips x_.addr x_.number x_.proto).toNat zVip).names x_.name := fun h => hasI_eq (K.nr _ (by omega)) _
     have hva : vAt c x_ = (findV c.vips x_.addr x_.number x_.proto).toNat := rfl
     refine D ?_
     refine E ?_
     have he : turnV c x_ = (4, c) := by unfold turnV; grind
     simp [he]
   · skip
     have hfn : ¬ findV c.vips x_.addr x_.number x_.proto < 0 := by grind
     obtain ⟨n, hfv, hnl, hnq, hnb⟩ : ∃ n : Nat, findV c.vips x_.addr x_.number x_.proto = n ∧ n < c.vips.length ∧ isV x_.addr x_.number x_.proto (c.vips.getD n zVip) = true ∧ ∀ j, j < n → isV x_.addr x_.number x_.proto (c.vips.getD j zVip) = false := idxG_lt zVip hfn
     have hva : vAt c x_ = n := by unfold vAt; omega
     have hnm : (c.vips.getD n zVip).names.length ≤ 2097152 := limV_getD hV n
     have hrs := K.nr n hnl
     have hhi := hasI_eq hrs x_.name
     have h7 : x_.kind = 7 → ¬ findB c.backends x_.name < 0 := by grind
     have h8 : x_.kind = 8 → hasG (eqI x_.name) (c.vips.getD n zVip).names = true := by
       intro h
       have e : (findV c.vips x_.addr x_.number x_.proto).toNat = n := by omega
       simp [h, e] at c4
       grind
     have hmn : min n c.vips.length = n := by omega
     have hA := And.intro hfv (hmn)
     refine D ?_
     refine cC (fun c5 => ?_) (fun c5 => ?_)
     · skip
       refine D ?_
       refine E ?_
       have he : turnV c x_ = (0, { c with vips := cutG c.vips (vAt c x_) }) := by unfold turnV; grind
       rw [he, hva]
       simp only [cut_rowsV c.vips hnl]
       and_intros <;> first | trivial | rfl | decide
     · skip
       refine D ?_
       refine cC (fun c6 => ?_) (fun c6 => ?_)
       · skip
         refine D ?_
         refine kD (s_spec_l1Has (c.vips.getD n zVip).names x_.name hnm) ?_
         refine D ?_
         refine cC (fun c7 => ?_) (fun c7 => ?_)
         · skip
           refine D ?_
           refine E ?_
           have he : turnV c x_ = (7, c) := by unfold turnV; grind
           simp [he]
         · skip
           have hgs := fun r d => getD_set_self (l := c.vips.map (eVip true)) (i := n) (by simp; omega) r d
           have hA := And.intro hA (hgs)
           refine D ?_
           refine kDk [] [630784] [] (s_spec_l1Rise (c.vips.getD n zVip).names x_.name hnm) ?_
           refine D ?_
           refine E ?_
           have he : turnV c x_ = (0, setV c (vAt c x_) { c.vips.getD (vAt c x_) zVip with names := riseL (c.vips.getD (vAt c x_) zVip).names x_.name }) := by unfold turnV; grind
           simp [he, setV, hva, eVip, List.map_set, List.set_set]
       · skip
         refine D ?_
         refine cC (fun c8 => ?_) (fun c8 => ?_)
         · skip
           refine D ?_
           refine L (α := Nat) (fun i => [(8, .ref 663552 0 (((c.vips.getD n zVip).names.take i).filter (notI x_.name)).length), (9, .int .i64 i)]) (fun i => [(663552, .arr ⟨1, (((c.vips.getD n zVip).names.take i).filter (notI x_.name)).map eI_i64, 1, none⟩)]) (fun i => (c.vips.getD n zVip).names.length - i) (fun i => i ≤ (c.vips.getD n zVip).names.length) 0 [] (fun i hI => ?_)
           have hfl : (((c.vips.getD n zVip).names.take i).filter (notI x_.name)).length ≤ i := by
             have := List.length_filter_le (notI x_.name) ((c.vips.getD n zVip).names.take i)
             rw [List.length_take] at this
             omega
           refine D ?_
           refine cC (fun c9 => ?_) (fun c9 => ?_)
           · skip
             refine D ?_
             refine cC (fun c10 => ?_) (fun c10 => ?_)
             · skip
               have hft := filter_take (notI x_.name) zI_i64 (xs := (c.vips.getD n zVip).names) (i := i) (by omega)
               rw [if_pos (by simpa [notI] using c10)] at hft
               have hA := And.intro hA (hft)
               refine D ?_
               refine lp_next (i+1) [(663552,831488)] ?_ ?_ ?_
               · simp only [go_sem, hA] <;> and_intros <;> first | with_reducible exact rfl | (first | with_reducible exact rfl | omega | (rw [hft]; simp [eI_i64]; done) | (rw [hft]; done) | (simp [hft, eI_i64]; done))
               · omega
               · omega
             · skip
               have hft := filter_take (notI x_.name) zI_i64 (xs := (c.vips.getD n zVip).names) (i := i) (by omega)
               rw [if_neg (by simpa [notI] using c10), List.append_nil] at hft
               have hA := And.intro hA (hft)
               refine D ?_
               refine lp_next (i+1) [] ?_ ?_ ?_
               · simp only [go_sem, hA] <;> and_intros <;> first | with_reducible exact rfl | (first | with_reducible exact rfl | omega | (rw [hft]; simp [eI_i64]; done) | (rw [hft]; done) | (simp [hft, eI_i64]; done))
               · omega
               · omega
           · skip
             obtain rfl : i = (c.vips.getD n zVip).names.length := by omega
             refine D ?_
             refine E ?_
             have he : turnV c x_ = (0, setV c (vAt c x_) { c.vips.getD (vAt c x_) zVip with names := cutG (c.vips.getD (vAt c x_) zVip).names (lbn (c.vips.getD (vAt c x_) zVip).names x_.name) }) := by unfold turnV; grind
             have hwo := without_eq hrs (v := x_.name) (by rw [← hhi]; exact h8 c8)
             rw [hwo]
             simp [he, setV, hva, eVip, List.map_set, List.set_set]
         · skip
           refine D ?_
           refine E ?_
           exfalso; omega
end
end Go.H
end
section
set_option maxRecDepth 100000
set_option maxHeartbeats 4000000
set_option cbv.maxSteps 4000000
set_option linter.unusedVariables false
set_option linter.unusedSimpArgs false
namespace Go.H
open Go Go.Proofs.Tryz
variable [Inv prog]
theorem s_spec_l5Serves (c : Config) (hx : limG 2097152 c) (n : Int) : SemX prog 172 [aT (.ptr (eConfig false c)), aI n] [] [rB (serves c.vips n)] [] := by
 refine goF [] [] [] func172 ?_
 obtain ⟨hb, hv, hV⟩ := id hx
 refine D ?_
 refine L (α := Nat) (fun x => [(5, .int .i64 x)]) (fun x => []) (fun x => c.vips.length - x) (fun x => x ≤ c.vips.length ∧ ∀ j, j < x → (fun v => hasG (eqI n) v.names) (c.vips.getD j zVip) = false) 0 [] (fun x hL => ?_) (hi := by exact ⟨Nat.zero_le _, fun j hj => by omega⟩)
 obtain ⟨hx2, hno⟩ := hL
 refine D ?_
 refine cC (fun c0 => ?_) (fun c0 => ?_)
 · skip
   refine D ?_
   refine kR (s_spec_l1Has (c.vips.getD x zVip).names n (hV _ (getD_mem zVip (by omega)))) ?_
   refine D ?_
   refine cC (fun c1 => ?_) (fun c1 => ?_)
   · skip
     refine D ?_
     refine E ?_
     have he : serves c.vips n = true := hasG_true zVip (i := x) (by omega) (by simpa using c1)
     rw [he]
   · skip
     refine D ?_
     refine N (x+1) [] (hi := ?_) (hm := ?_)
     · refine ⟨by omega, fun j hj => ?_⟩
       rcases Nat.lt_or_ge j x with h | h
       · exact hno j h
       · obtain rfl : j = x := by omega
         first | exact c1 | (simpa [isB, isV, eqI] using c1) | (simp [isB, isV, eqI]; grind)
     · omega
 · skip
   obtain rfl : x = c.vips.length := by omega
   refine D ?_
   refine E ?_
   have he : serves c.vips n = false := hasG_false zVip hno
   rw [he]
end Go.H
end
section
set_option maxRecDepth 100000
set_option maxHeartbeats 4000000
set_option cbv.maxSteps 4000000
set_option linter.unusedVariables false
set_option linter.unusedSimpArgs false
namespace Go.H
open Go Go.Proofs.Tryz
variable [Inv prog]
theorem s_spec_l5Turn (c : Config) (hx : limG 2097152 c) (K : CfOk c) (x_ : Cmd) (hkd : x_.kind = 1 ∨ x_.kind = 2 ∨ x_.kind = 3 ∨ x_.kind = 4 ∨ x_.kind = 9) : SemX prog 127 [.one (.ptr 0 0), aS (eCmd x_)] [.var (eConfig true c)] [rI (turnB c x_).1] [.var (eConfig true (turnB c x_).2)] := by
 refine goF [(282, ⟨some 1, none, none, none⟩)] [(8, 4, [1000000], []), (8, 11, [1000000], []), (8, 13, [1000002], []), (8, 15, [1000002], []), (8, 17, [16384], []), (11, 1, [], [221184]), (11, 5, [1000000], []), (11, 7, [1000002], []), (11, 8, [221184, 1000002], [249856, 221184]), (11, 9, [32768], []), (11, 10, [], [258048]), (11, 11, [249856, 258048], [262144, 249856, 258048]), (11, 15, [1000000], []), (11, 17, [1000002], []), (11, 18, [262144, 1000002], [290816, 262144]), (11, 21, [1000000], [1000000]), (17, 3, [1000000], []), (17, 6, [16384], []), (17, 7, [1000002], []), (17, 9, [1000002], [1000002]), (19, 3, [1000000], []), (19, 6, [16384], []), (19, 7, [1000002], []), (19, 9, [1000002], [1000002]), (21, 3, [1000000], []), (21, 6, [16384], []), (21, 8, [1000002], []), (21, 10, [1000002], [1000002]), (27, 1, [], [524288]), (27, 5, [1000000], []), (27, 7, [1000002], []), (27, 8, [524288, 1000002], [552960, 524288]), (27, 12, [1000000], []), (27, 15, [1000002], []), (27, 16, [552960, 1000002], [585728, 552960]), (27, 19, [1000000], [1000000])] [] func127 ?_
 obtain ⟨hb, hv, hV⟩ := id hx
 refine D ?_
 refine kR (s_spec_l5At c hx x_.name) ?_
 refine D ?_
 refine cC (fun c0 => ?_) (fun c0 => ?_)
 · skip
   refine D ?_
   refine cC (fun c1 => ?_) (fun c1 => ?_)
   · skip
     refine D ?_
     refine E ?_
     have he : turnB c x_ = (7, c) := by unfold turnB; grind
     simp [he]
   · skip
     refine D ?_
     refine cC (fun c2 => ?_) (fun c2 => ?_)
     · skip
       refine D ?_
       refine E ?_
       have he : turnB c x_ = (2, c) := by unfold turnB; grind
       simp [he]
     · skip
       refine D ?_
       refine L (α := Nat) (fun k => [(6, .int .i64 k)]) (fun k => []) (fun k => c.backends.length - k) (fun k => k ≤ c.backends.length ∧ ∀ q, q < k → ltB x_.name (c.backends.getD q zBackend) = true) 0 [] (fun k hL => ?_) (hi := by exact ⟨Nat.zero_le _, fun q h => by omega⟩)
       obtain ⟨hk, hlo⟩ := hL
       refine D ?_
       refine cC (fun c3 => ?_) (fun c3 => ?_)
       · skip
         refine D ?_
         refine N (k+1) [] (hi := ?_) (hm := ?_)
         · refine ⟨by omega, fun q hq => ?_⟩
           rcases Nat.lt_or_ge q k with h | h
           · exact hlo q h
           · obtain rfl : q = k := by omega
             unfold ltB
             grind
         · omega
       · skip
         have hpk : preG (ltB x_.name) c.backends = k := preG_eq zBackend hk hlo (fun h => by unfold ltB; grind)
         refine D ?_
         refine E ?_
         have he : turnB c x_ = (0, { c with backends := putG (ltB x_.name) c.backends (bOf x_) }) := by unfold turnB; grind
         simp [he, putG, hpk, bOf, eBackend]
         exact ⟨put_rows eBackend c.backends hk _, rfl⟩
 · skip
   refine D ?_
   refine cC (fun c4 => ?_) (fun c4 => ?_)
   · skip
     refine D ?_
     refine E ?_
     have he : turnB c x_ = (4, c) := by unfold turnB; grind
     simp [he]
   · skip
     obtain ⟨n, hfb, hnl, hnq, hnb⟩ : ∃ n : Nat, findB c.backends x_.name = n ∧ n < c.backends.length ∧ isB x_.name (c.backends.getD n zBackend) = true ∧ ∀ j, j < n → isB x_.name (c.backends.getD j zBackend) = false := idxG_lt zBackend c4
     have hba : bAt c x_.name = n := by unfold bAt; omega
     have hA := hfb
     refine D ?_
     refine cC (fun c5 => ?_) (fun c5 => ?_)
     · skip
       refine D ?_
       refine E ?_
       have he : turnB c x_ = (0, setB c (bAt c x_.name) { c.backends.getD (bAt c x_.name) zBackend with weight := x_.number }) := by unfold turnB; grind
       
       simp [he, setB, hba, List.map_set, eBackend, List.set_set]
     · skip
       refine D ?_
       refine cC (fun c6 => ?_) (fun c6 => ?_)
       · skip
         refine D ?_
         refine E ?_
         have he : turnB c x_ = (0, setB c (bAt c x_.name) { c.backends.getD (bAt c x_.name) zBackend with stage := x_.number }) := by unfold turnB; grind
         
         simp [he, setB, hba, List.map_set, eBackend, List.set_set]
       · skip
         refine D ?_
         refine cC (fun c7 => ?_) (fun c7 => ?_)
         · skip
           refine D ?_
           refine E ?_
           have he : turnB c x_ = (0, setB c (bAt c x_.name) { c.backends.getD (bAt c x_.name) zBackend with up := decide (x_.number = 1) }) := by unfold turnB; grind
           
           simp [he, setB, hba, List.map_set, eBackend, List.set_set]
         · skip
           refine D ?_
           refine cC (fun c8 => ?_) (fun c8 => ?_)
           · skip
             refine D ?_
             refine cC (fun c9 => ?_) (fun c9 => ?_)
             · skip
               refine D ?_
               refine E ?_
               have he : turnB c x_ = (10, c) := by unfold turnB; grind
               simp [he]
             · skip
               refine D ?_
               refine kR (s_spec_l5Serves c hx x_.name) ?_
               refine D ?_
               refine cC (fun c10 => ?_) (fun c10 => ?_)
               · skip
                 refine D ?_
                 refine E ?_
                 have he : turnB c x_ = (8, c) := by unfold turnB; grind
                 simp [he]
               · skip
                 refine D ?_
                 refine E ?_
                 have he : turnB c x_ = (0, { c with backends := cutG c.backends (bAt c x_.name) }) := by unfold turnB; grind
                 
                 simp [he, cutG, hba]
                 exact ⟨cut_rows eBackend c.backends hnl, rfl⟩
           · skip
             refine D ?_
             refine E ?_
             exfalso; omega
end Go.H
end
